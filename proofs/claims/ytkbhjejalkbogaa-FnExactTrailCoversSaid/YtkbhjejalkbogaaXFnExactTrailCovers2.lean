/- The law FnExactTrailCovers holds: it returns true, and the input reads as it did. No condition. This is part 2 of 4 of its proof. -/
import Derived.Test.YtkbhjejalkbogaaXFnExactTrailCovers1
import Derived.IntWalk
import Derived.ChangeArms
import Derived.Test.YtkbhjejalkbogaaProg

/- The plain side, part 1: the operations at known values; loops; what is read in a slice. -/
set_option linter.unusedVariables false
set_option linter.unusedSimpArgs false
namespace Go.Av
open Go Go.RowKit IntWalk

section
variable {P : Program} {w0 : World} {σ σ' : Vw}

/-! ### The operations at known values -/
theorem pIf_b {b : Bool} {A B : Prop} : pIf (.bool b) A B ↔ (b = true → A) ∧ (b = false → B) :=
  ⟨fun ⟨c, h, h1, h2⟩ => by cases h; exact ⟨h1, h2⟩, fun ⟨h1, h2⟩ => ⟨b, rfl, h1, h2⟩⟩
theorem pIf_d {p : Prop} [Decidable p] {A B : Prop} : pIf (.bool (decide p)) A B ↔ (p → A) ∧ (¬ p → B) := by
  rw [pIf_b]; simp
theorem pLen_s {A : Option Addr} {n c : Nat} {K : Value → Prop} : pLen (.slice A n c) K ↔ K (.int .i64 n) :=
  ⟨fun ⟨_, _, _, h, hK⟩ => by cases h; exact hK, fun h => ⟨_, _, _, rfl, h⟩⟩
theorem pLenS_s {s : ByteArray} {K : Value → Prop} : pLenS (.string s) K ↔ K (.int .i64 s.size) :=
  ⟨fun ⟨_, h, hK⟩ => by cases h; exact hK, fun h => ⟨_, rfl, h⟩⟩
theorem pNil_s {a : Addr} {K : Prop} : pNil (.pointer (some a)) K ↔ K := ⟨fun ⟨_, _, h⟩ => h, fun h => ⟨a, rfl, h⟩⟩
theorem pField_s {o : Nat} {a : Addr} {K : Value → Prop} : pField o (.pointer (some a)) K ↔ K (.pointer (some (a.add o))) :=
  ⟨fun ⟨_, h, hK⟩ => by cases h; exact hK, fun h => ⟨_, rfl, h⟩⟩
theorem pUn_not {b : Bool} {K : Value → Prop} : pUn .not (.bool b) K ↔ K (.bool !b) :=
  ⟨fun ⟨_, h, hK⟩ => by simp only [aun, Option.some.injEq] at h; subst h; exact hK, fun h => ⟨_, rfl, h⟩⟩
theorem pBin_i {T : Nat} {op : BinOp} {k : IntKind} {a b : Int} {v : Value} {K : Value → Prop} (h : aint op k a b = some v) : pBin P T op (.int k a) (.int k b) K ↔ K v := by
  have e : abinT P T op (.int k a) (.int k b) = some v := by unfold abinT; simp only [if_true]; exact h
  exact ⟨fun ⟨_, h, hK⟩ => by rw [e] at h; cases h; exact hK, fun h => ⟨_, e, h⟩⟩
theorem pBin_lt {T : Nat} {k : IntKind} {a b : Int} {K : Value → Prop} : pBin P T .lss (.int k a) (.int k b) K ↔ K (.bool (decide (a < b))) := pBin_i rfl
theorem pBin_le {T : Nat} {k : IntKind} {a b : Int} {K : Value → Prop} : pBin P T .leq (.int k a) (.int k b) K ↔ K (.bool (decide (a ≤ b))) := pBin_i rfl
theorem pBin_gt {T : Nat} {k : IntKind} {a b : Int} {K : Value → Prop} : pBin P T .gtr (.int k a) (.int k b) K ↔ K (.bool (decide (b < a))) := pBin_i rfl
theorem pBin_ge {T : Nat} {k : IntKind} {a b : Int} {K : Value → Prop} : pBin P T .geq (.int k a) (.int k b) K ↔ K (.bool (decide (b ≤ a))) := pBin_i rfl
theorem pBin_eq {T : Nat} {k : IntKind} {a b : Int} {K : Value → Prop} : pBin P T .eql (.int k a) (.int k b) K ↔ K (.bool (decide (a = b))) := pBin_i rfl
theorem pBin_ne {T : Nat} {k : IntKind} {a b : Int} {K : Value → Prop} : pBin P T .neq (.int k a) (.int k b) K ↔ K (.bool (decide (a ≠ b))) :=
  pBin_i (by simp only [aint, bne, Option.some.injEq, Value.bool.injEq]; by_cases h : a = b <;> simp [h])
theorem pBin_add {T : Nat} {a b : Int} {K : Value → Prop} (h : -9223372036854775808 ≤ a + b ∧ a + b ≤ 9223372036854775807) : pBin P T .add (.int .i64 a) (.int .i64 b) K ↔ K (.int .i64 (a + b)) :=
  pBin_i (by simp only [aint, i64_in _ h])
theorem pBin_sub {T : Nat} {a b : Int} {K : Value → Prop} (h : -9223372036854775808 ≤ a - b ∧ a - b ≤ 9223372036854775807) : pBin P T .sub (.int .i64 a) (.int .i64 b) K ↔ K (.int .i64 (a - b)) :=
  pBin_i (by simp only [aint, i64_in _ h])
theorem bytes_inj {a b : ByteArray} (h : a.toList = b.toList) : a = b := by
  rw [ByteArray.toList_eq, ByteArray.toList_eq] at h
  cases a; cases b
  simp only [ByteArray.mk.injEq]
  exact Array.toList_inj.1 h
theorem toList_eq {a b : ByteArray} : (a.toList == b.toList) = decide (a = b) := by
  have : a.toList = b.toList ↔ a = b := ⟨fun h => Go.Av.bytes_inj h, fun h => by rw [h]⟩
  by_cases h : a = b
  · subst h; simp
  · have h' : ¬ a.toList = b.toList := fun e => h (this.1 e)
    simp [h, h']
theorem pBin_s {T : Nat} {op : BinOp} {a b : ByteArray} {v : Value} {K : Value → Prop} (h : astr op a b = some v) : pBin P T op (.string a) (.string b) K ↔ K v :=
  ⟨fun ⟨_, h', hK⟩ => by rw [show abinT P T op (.string a) (.string b) = some v from h] at h'; cases h'; exact hK, fun hK => ⟨_, h, hK⟩⟩
theorem pBin_seq {T : Nat} {a b : ByteArray} {K : Value → Prop} : pBin P T .eql (.string a) (.string b) K ↔ K (.bool (decide (a = b))) := pBin_s (by simp only [astr, toList_eq])
theorem pBin_sne {T : Nat} {a b : ByteArray} {K : Value → Prop} : pBin P T .neq (.string a) (.string b) K ↔ K (.bool (decide (a ≠ b))) := pBin_s (by simp only [astr, toList_eq]; simp)
theorem pBin_b {T : Nat} {op : BinOp} {a b : Bool} {v : Value} {K : Value → Prop} (hT : P.underlying T = some .bool) (h : (match op with | .eql => some (Value.bool (a == b)) | .neq => some (.bool (!(a == b))) | _ => none) = some v) : pBin P T op (.bool a) (.bool b) K ↔ K v := by
  have e : abinT P T op (.bool a) (.bool b) = some v := by simp only [abinT, hT]; exact h
  exact ⟨fun ⟨_, h', hK⟩ => by rw [e] at h'; cases h'; exact hK, fun hK => ⟨_, e, hK⟩⟩

theorem pVal1 {n : Nat} {v : Value} {A : Prop} (h : v.oneCell' = true) : pVal false n v A ↔ A := ⟨fun h => h.2, fun hA => ⟨h, hA⟩⟩
theorem pValN {n : Nat} {cs : List Value} {A : Prop} (hl : cs.length = n) (h : ∀ c, c ∈ cs → c.oneCell' = true) : pVal true n (.agg ⟨cs⟩) A ↔ A := ⟨fun h => h.2, fun hA => ⟨⟨cs, rfl, hl, h⟩, hA⟩⟩
theorem cellOf_agg {cs : List Value} {i : Nat} : cellOf (.agg ⟨cs⟩) i = cs.getD i undef := rfl
/-! ### Loops -/
theorem loop_rule {B : List Value → (AX → List Value → Vw → Prop) → Vw → Prop} {K : AX → List Value → Vw → Prop} (I : Nat → List Value → Vw → Prop)
    (step : ∀ m vs σ (L : List Value → Vw → Prop), I m vs σ → (∀ vs' σ', ∀ m', m' + 1 = m → I m' vs' σ' → L vs' σ') → B vs (fun e vs' σ' => match e with | .normal => L vs' σ' | .exit i => K (.exit i) vs' σ' | .ret => K .ret vs' σ') σ)
    {m : Nat} {vs : List Value} (h : I m vs σ) : pLoop B vs σ K := by
  refine ⟨m + 1, ?_⟩
  induction m generalizing vs σ with
  | zero => exact step 0 vs σ _ h (fun vs' σ' m' e => by omega)
  | succ m ih =>
    refine step (m + 1) vs σ _ h (fun vs' σ' m' e hI => ?_)
    have e : m' = m := by omega
    subst e
    exact ih hI

/-! ### Reading -/
theorem add_add (a : Addr) (i j : Nat) : (a.add i).add j = a.add (i + j) := by
  unfold Addr.add
  by_cases hi : i = 0
  · simp [hi]
  · by_cases hj : j = 0
    · simp [hj]
    · have : i + j ≠ 0 := by omega
      simp [hi, hj, this, Nat.add_assoc]

/-- A reader that reads no less. -/
def Le (rd rd' : Addr → Option Value) : Prop := ∀ a v, rd a = some v → rd' a = some v
theorem Le.refl (rd : Addr → Option Value) : Le rd rd := fun _ _ h => h
theorem Le.trans {rd rd' rd'' : Addr → Option Value} (h : Le rd rd') (h' : Le rd' rd'') : Le rd rd'' := fun a v ha => h' a v (h a v ha)
theorem Ext.le (hx : Ext σ σ') : Le (Av.get w0 σ) (Av.get w0 σ') := fun _ _ h => get_ext hx h

/-- What is read behind a slice: xs, each of n cells. -/
def RSl {α : Type} (n : Nat) (R : (Addr → Option Value) → List Value → α → Prop) (rd : Addr → Option Value) (v : Value) (xs : List α) : Prop :=
  ∃ A cap, v = .slice A xs.length cap ∧ (xs.length ≤ cap ∧ cap ≤ 9223372036854775807) ∧ ∀ (j : Nat) (x : α), xs[j]? = some x → ∃ a es, A = some a ∧ es.length = n ∧ (∀ i, i < n → rd (a.add (j * n + i)) = es[i]?) ∧ R rd es x

theorem RSl.mono {α : Type} {n : Nat} {R : (Addr → Option Value) → List Value → α → Prop} {rd rd' : Addr → Option Value} {v : Value} {xs : List α} (h : RSl n R rd v xs) (hx : Le rd rd') (hR : ∀ es x, R rd es x → R rd' es x) : RSl n R rd' v xs := by
  obtain ⟨A, cap, h1, h2, h3⟩ := h
  refine ⟨A, cap, h1, h2, fun j x hj => ?_⟩
  obtain ⟨a, es, h4, h5, h6, h7⟩ := h3 j x hj
  refine ⟨a, es, h4, h5, fun i hi => ?_, hR _ _ h7⟩
  have := h6 i hi
  have hlt : i < es.length := by omega
  rw [List.getElem?_eq_getElem hlt] at this ⊢
  exact hx _ _ this

theorem RSl.len {α : Type} {n : Nat} {R : (Addr → Option Value) → List Value → α → Prop} {rd : Addr → Option Value} {v : Value} {xs : List α} (h : RSl n R rd v xs) {K : Value → Prop} : pLen v K ↔ K (.int .i64 xs.length) := by
  obtain ⟨A, cap, rfl, _⟩ := h
  exact pLen_s

/-- An element is read. -/
theorem RSl.at {α : Type} {n : Nat} {R : (Addr → Option Value) → List Value → α → Prop} {v : Value} {xs : List α} (h : RSl n R (Av.get w0 σ) v xs) {j : Nat} {x : α} (hj : xs[j]? = some x) {K : (Nat → Value) → Prop} (hK : ∀ g : Nat → Value, R (Av.get w0 σ) (expl g 0 n) x → K g) :
    pIndexAddr n v (.int .i64 j) fun p => pLoad w0 n p σ K := by
  obtain ⟨A, cap, rfl, _, h3⟩ := h
  obtain ⟨a, es, rfl, h5, h6, h7⟩ := h3 j x hj
  have hlt : j < xs.length := (List.getElem?_eq_some_iff.1 hj).1
  refine ⟨a, xs.length, cap, .i64, j, rfl, rfl, by omega, by omega, a.add (j * n), fun i => es.getD i undef, rfl, fun i hi => ?_, hK _ ?_⟩
  · have := h6 i hi
    have hlt : i < es.length := by omega
    rw [add_add, this, List.getElem?_eq_getElem hlt]
    simp only [List.getD_eq_getElem?_getD, List.getElem?_eq_getElem hlt, Option.getD_some]
  · have : expl (fun i => es.getD i undef) 0 n = es := by
      apply List.ext_getElem?
      intro i
      by_cases hi : i < n
      · rw [expl_get _ _ _ _ hi, Nat.zero_add, List.getD_eq_getElem?_getD]
        have hlt : i < es.length := by omega
        rw [List.getElem?_eq_getElem hlt]; rfl
      · rw [List.getElem?_eq_none (by rw [length_expl]; omega), List.getElem?_eq_none (by omega)]
    rw [this]; exact h7

/-- A text. -/
def RS (rd : Addr → Option Value) (cs : List Value) (s : ByteArray) : Prop := cs = [.string s] ∧ s.size ≤ 9223372036854775807
end
end Go.Av

/- The plain side, part 2: rows of our own. -/
set_option linter.unusedVariables false
set_option linter.unusedSimpArgs false
namespace Go.Av
open Go Go.RowKit

/-- Every row stays as it is; there may be new ones. -/
def Keeps (σ σ' : Vw) : Prop := ∀ b r, σ b = some r → σ' b = some r
theorem Keeps.refl (σ : Vw) : Keeps σ σ := fun _ _ h => h
theorem Keeps.trans {σ σ' σ'' : Vw} (h : Keeps σ σ') (h' : Keeps σ' σ'') : Keeps σ σ'' := fun b r hb => h' b r (h b r hb)
theorem Keeps.ext {σ σ' : Vw} (h : Keeps σ σ') : Ext σ σ' := fun b r hb => ⟨r, h b r hb, List.prefix_refl _⟩
theorem Keeps.le {w0 : World} {σ σ' : Vw} (h : Keeps σ σ') : Le (Av.get w0 σ) (Av.get w0 σ') := h.ext.le
theorem Keeps.stay {w0 : World} {σ σ' : Vw} {v : Value} {n : Nat} (h : Keeps σ σ') : Stay w0 σ σ' v n := fun a g _ hc j hj => h.le _ _ (hc j hj)
theorem Keeps.put {σ : Vw} {b : Nat} {r : Row} (h : σ b = none) : Keeps σ (σ.put b r) := fun i x hi => by
  have : i ≠ b := fun e => by rw [e, h] at hi; cases hi
  simp [Vw.put, this, hi]
/-- A new row is made, then others, then the first is written. -/
theorem Keeps.fill {σ σ' : Vw} {b : Nat} {r : Row} (h : Keeps σ σ') (hb : σ b = none) : Keeps σ (σ'.put b r) := fun i x hi => by
  have : i ≠ b := fun e => by rw [e, hb] at hi; cases hi
  simp [Vw.put, this, h i x hi]
theorem put_at {σ : Vw} {b : Nat} {r : Row} : σ.put b r b = some r := by simp [Vw.put]
theorem put_put {σ : Vw} {b : Nat} {r r' : Row} : (σ.put b r).put b r' = σ.put b r' := by
  funext i; simp only [Vw.put]; split <;> rfl

theorem get_row {w0 : World} {σ : Vw} {b off : Nat} {r : Row} (hb : w0.heap.size ≤ b) (h : σ b = some r) : Av.get w0 σ ⟨b, off, none⟩ = r.cells[off]? := by
  unfold Av.get
  simp only
  rw [if_neg (by omega), if_pos trivial, h]; rfl

theorem addr_add (b off i : Nat) : (Addr.mk b off none).add i = ⟨b, off + i, none⟩ := by
  unfold Addr.add
  split
  · rename_i h; subst h; rfl
  · rfl

theorem setAt_mid : ∀ (A old new C : List Value), old.length = new.length → setAt (A ++ (old ++ C)) A.length new = A ++ (new ++ C)
  | A, [], [], C, _ => by simp [setAt]
  | A, [], _ :: _, C, h => by simp at h
  | A, _ :: _, [], C, h => by simp at h
  | A, o :: old, n :: new, C, h => by
    simp only [setAt]
    have e : (A ++ (o :: old ++ C)).set A.length n = (A ++ [n]) ++ (old ++ C) := by simp
    rw [e]
    have := setAt_mid (A ++ [n]) old new C (by simpa using h)
    simp only [List.length_append, List.length_singleton] at this
    rw [this]
    simp

section
variable {w0 : World} {σ : Vw}

theorem flat_len {n : Nat} : ∀ (xs : List (List Value)), (∀ c, c ∈ xs → c.length = n) → xs.flatten.length = xs.length * n
  | [], _ => by simp
  | c :: r, h => by
    have := flat_len r (fun d hd => h d (List.mem_cons_of_mem _ hd))
    simp only [List.flatten_cons, List.length_append, List.length_cons, this, h c List.mem_cons_self]
    rw [Nat.add_mul, Nat.one_mul, Nat.add_comm]

theorem flat_get {n : Nat} : ∀ (xs : List (List Value)), (∀ c, c ∈ xs → c.length = n) → ∀ (j : Nat) (c : List Value), xs[j]? = some c → ∀ i, i < n → xs.flatten[j * n + i]? = c[i]?
  | [], _, j, c, hj, i, hi => by simp at hj
  | d :: r, h, 0, c, hj, i, hi => by
    simp at hj; subst hj
    have := h d List.mem_cons_self
    rw [List.flatten_cons, Nat.zero_mul, Nat.zero_add, List.getElem?_append_left (by omega)]
  | d :: r, h, j + 1, c, hj, i, hi => by
    have hd := h d List.mem_cons_self
    rw [List.flatten_cons, Nat.add_mul, Nat.one_mul, List.getElem?_append_right (by omega)]
    have := flat_get r (fun d hd => h d (List.mem_cons_of_mem _ hd)) j c (by simpa using hj) i hi
    rw [← this]
    congr 1
    omega

/-- What lies in a row of our own can be read. -/
theorem RSl.own {α : Type} {n : Nat} {R : (Addr → Option Value) → List Value → α → Prop} {b cap : Nat} {r : Row} {xs : List α} {cs : List (List Value)} {tail : List Value} (hb : w0.heap.size ≤ b) (hr : σ b = some r) (hc : r.cells = cs.flatten ++ tail) (hn : ∀ c, c ∈ cs → c.length = n)
    (hl : cs.length = xs.length) (hm : xs.length ≤ cap ∧ cap ≤ 9223372036854775807) (hR : ∀ (j : Nat) (c : List Value) (x : α), cs[j]? = some c → xs[j]? = some x → R (Av.get w0 σ) c x) : RSl n R (Av.get w0 σ) (.slice (some ⟨b, 0, none⟩) xs.length cap) xs := by
  refine ⟨_, cap, rfl, hm, fun j x hj => ?_⟩
  have hlt : j < cs.length := by have := (List.getElem?_eq_some_iff.1 hj).1; omega
  have hcj := List.getElem?_eq_getElem hlt
  refine ⟨_, cs[j], rfl, hn _ (List.getElem_mem hlt), fun i hi => ?_, hR j _ x hcj hj⟩
  rw [addr_add, get_row hb hr, Nat.zero_add, hc, ← flat_get cs hn j _ hcj i hi, List.getElem?_append_left]
  rw [flat_len cs hn]
  calc j * n + i < j * n + n := by omega
    _ = (j + 1) * n := by rw [Nat.add_mul, Nat.one_mul]
    _ ≤ cs.length * n := Nat.mul_le_mul_right n hlt

/-- An element of a row of our own is written. -/
theorem own_store {b cap len : Nat} {j n : Nat} {r : Row} {A old new C : List Value} (hr : σ b = some r) (hc : r.cells = A ++ (old ++ C)) (hA : A.length = j * n) (ho : old.length = new.length) (hn : new.length = n) (hj : j < len) {K : Vw → Prop}
    (hK : K (σ.put b { r with cells := A ++ (new ++ C) })) : pIndexAddr n (.slice (some ⟨b, 0, none⟩) len cap) (.int .i64 j) fun p => pStore p new σ K := by
  refine ⟨_, len, cap, .i64, j, rfl, rfl, by omega, by omega, b, j * n, r, by rw [addr_add]; simp, hr, ?_, ?_⟩
  · rw [hc]; simp only [List.length_append]; omega
  · rw [hc, ← hA, setAt_mid _ _ _ _ ho]; exact hK

theorem RSl.one {α : Type} {n : Nat} {R : (Addr → Option Value) → List Value → α → Prop} {rd : Addr → Option Value} {v : Value} {xs : List α} (h : RSl n R rd v xs) : v.oneCell' = true := by
  obtain ⟨A, cap, rfl, _⟩ := h
  rfl
theorem RSl.le {α : Type} {n : Nat} {R : (Addr → Option Value) → List Value → α → Prop} {rd : Addr → Option Value} {v : Value} {xs : List α} (h : RSl n R rd v xs) : xs.length ≤ 9223372036854775807 := by
  obtain ⟨_, _, _, h2, _⟩ := h; exact Nat.le_trans h2.1 h2.2
theorem pVal_2 {v v' : Value} {A : Prop} (h : v.oneCell' = true) (h' : v'.oneCell' = true) : pVal true 2 (.agg ⟨[v, v']⟩) A ↔ A := pValN rfl (by simp [h, h'])
theorem pMake_s {ety n bytes m : Nat} {z : List Value} {K : Value → Vw → Prop} (hm : bytes * m ≤ 140737488355328) (hm2 : m ≤ 9223372036854775807) (hK : ∀ b e, w0.heap.size ≤ b → σ b = none → K (.slice (some ⟨b, 0, none⟩) m m) (σ.put b ⟨e, (List.replicate m z).flatten, m * n, (0, 0)⟩)) :
    pMake w0 ety n bytes z (.int .i64 m) (.int .i64 m) σ K := by
  refine ⟨.i64, m, rfl, rfl, by omega, by omega, ?_, fun b h1 h2 => ?_⟩
  · have : ((bytes * m : Nat) : Int) ≤ 2 ^ 47 := by
      rw [show (2 : Int) ^ 47 = 140737488355328 by decide]; omega
    simpa using this
  · have := hK b ety h1 h2
    simpa using this
end
end Go.Av

/- The lists of structs, whatever their element: their size, their comparison. -/
set_option linter.unusedVariables false
set_option linter.unusedSimpArgs false
namespace Go.Av
open Go Go.RowKit

/-- What is left of n. -/
def left (n : Int) (t : Nat) : Int := if n - t < 0 then -1 else n - t
theorem left_neg {n : Int} {t : Nat} : left n t < 0 ↔ n < t := by unfold left; split <;> omega
theorem left_low {n : Int} {t : Nat} (h : n < t) : left n t = -1 := by unfold left; rw [if_pos (by omega)]
theorem left_in {n : Int} {t : Nat} (h : (t : Int) ≤ n) : left n t = n - t := by unfold left; rw [if_neg (by omega)]

def sumBy {α : Type} (f : α → Nat) : List α → Nat
  | [] => 0
  | s :: r => f s + sumBy f r
theorem sumBy_take {α : Type} {f : α → Nat} {xs : List α} : ∀ {j : Nat} {x : α}, xs[j]? = some x → sumBy f (xs.take (j + 1)) = sumBy f (xs.take j) + f x := by
  induction xs with
  | nil => intro j x h; simp at h
  | cons a r ih =>
    intro j x h
    cases j with
    | zero => simp at h; subst h; simp [sumBy]
    | succ j =>
      simp at h
      have := ih h
      simp only [List.take_succ_cons, sumBy, this]
      omega
theorem sumBy_le {α : Type} {f : α → Nat} {xs : List α} : ∀ (j : Nat), sumBy f (xs.take j) ≤ sumBy f xs := by
  induction xs with
  | nil => intro j; simp [sumBy]
  | cons a r ih =>
    intro j
    cases j with
    | zero => simp [sumBy]
    | succ j => have := ih j; simp only [List.take_succ_cons, sumBy]; omega

section
variable {P : Program} {w0 : World} {σ : Vw} {α : Type}

def VszS (P : Program) (w0 : World) (T n f : Nat) (a0 a1 : Value) (σ : Vw) (R : Value → Vw → Prop) : Prop :=
  pLen a0 (fun v0 => pBin P T .sub a1 v0 (fun v1 => pBin P T .lss v1 (.int .i64 0) (fun v2 => pIf v2 (R (.int .i64 (-1)) σ) (pLoop (fun l3 K4 s5 => pLen (vget l3 0) (fun v6 => pBin P T .lss (vget l3 3) v6 (fun v7 => pIf v7
    (pIndexAddr n (vget l3 0) (vget l3 3) (fun v8 => pLoad w0 n v8 s5 (fun g9 => AC P w0 f [.agg ⟨expl g9 0 n⟩, vget l3 1] s5 (fun v10 s11 => pBin P T .lss v10 (.int .i64 0) (fun v12 => pIf v12 (K4 .ret [vget l3 0, v10, .int .i64 (-1), vget l3 3] s11)
      (pBin P T .add (vget l3 3) (.int .i64 1) (fun v13 => K4 .normal [vget l3 0, v10, vget l3 2, v13] s11))))))) (K4 (.exit 0) [vget l3 0, vget l3 1, vget l3 2, vget l3 3] s5)))) [a0, v1, .int .i64 0, .int .i64 0] σ
    (fun x14 l15 s16 => match x14 with | .normal => R (vget l15 1) s16 | .ret => R (vget l15 2) s16 | .exit i17 => (match Nat.beq i17 0 with | true => R (vget l15 1) s16 | false => False))))))

theorem szS_gen {T n f : Nat} {Rel : (Addr → Option Value) → List Value → α → Prop} {sz : α → Nat} {v : Value} {xs : List α} {m : Int}
    (hf : ∀ x, x ∈ xs → ∀ (es : List Value) (m : Int) (R' : Value → Vw → Prop), Rel (Av.get w0 σ) es x → 0 ≤ m ∧ m ≤ 9223372036854775807 → R' (.int .i64 (left m (sz x))) σ → AC P w0 f [.agg ⟨es⟩, .int .i64 m] σ R')
    (h : RSl n Rel (Av.get w0 σ) v xs) (hn : 0 ≤ m ∧ m ≤ 9223372036854775807) {R : Value → Vw → Prop} (hR : R (.int .i64 (left m (xs.length + sumBy sz xs))) σ) : VszS P w0 T n f v (.int .i64 m) σ R := by
  unfold VszS
  have hl := h.le
  rw [h.len, pBin_sub (by omega), pBin_lt, pIf_d]
  refine ⟨fun hlt => ?_, fun hge => ?_⟩
  · rw [left_low (by omega)] at hR; exact hR
  · refine loop_rule (m := xs.length) (fun k l s => ∃ j, s = σ ∧ k + j = xs.length ∧ 0 ≤ m - xs.length - sumBy sz (xs.take j) ∧ l = [v, .int .i64 (m - xs.length - sumBy sz (xs.take j)), .int .i64 0, .int .i64 (j : Nat)]) ?_ ⟨0, rfl, by omega, by simp [sumBy]; omega, by simp [sumBy]⟩
    rintro k l s L ⟨j, rfl, hm, h0, rfl⟩ hL
    simp only [vget, List.getD_cons_zero, List.getD_cons_succ]
    rw [h.len, pBin_lt, pIf_d]
    refine ⟨fun hj => ?_, fun hj => ?_⟩
    · have hj' : j < xs.length := by omega
      have hx := List.getElem?_eq_getElem hj'
      refine h.at hx fun g hg => ?_
      have ht := sumBy_take (f := sz) hx
      have hle := sumBy_le (f := sz) (xs := xs) (j + 1)
      refine hf _ (List.getElem_mem hj') _ _ _ hg (by omega) ?_
      rw [pBin_lt, pIf_d]
      refine ⟨fun hlt => ?_, fun hge => ?_⟩
      · rw [left_neg] at hlt
        rw [left_low (by omega)] at hR; exact hR
      · rw [left_neg] at hge
        rw [pBin_add (by omega), left_in (by omega)]
        refine hL _ _ (k - 1) (by omega) ⟨j + 1, rfl, by omega, by omega, ?_⟩
        rw [ht]
        congr 2
        · congr 1; omega
    · have hj' : j = xs.length := by omega
      subst hj'
      rw [List.take_length] at h0 ⊢
      rw [left_in (by omega)] at hR
      rw [show m - (xs.length : Int) - (sumBy sz xs : Int) = m - ((xs.length + sumBy sz xs : Nat) : Int) by omega]
      exact hR

def VeqS (P : Program) (w0 : World) (T n f : Nat) (a0 a1 : Value) (σ : Vw) (R : Value → Vw → Prop) : Prop :=
  pLen a0 (fun v0 => pLen a1 (fun v1 => pBin P T .neq v0 v1 (fun v2 => pIf v2 (R (.bool false) σ) (pLoop (fun l3 K4 s5 => pLen (vget l3 0) (fun v6 => pBin P T .lss (vget l3 3) v6 (fun v7 => pIf v7
    (pIndexAddr n (vget l3 0) (vget l3 3) (fun v8 => pLoad w0 n v8 s5 (fun g9 => pIndexAddr n (vget l3 1) (vget l3 3) (fun v10 => pLoad w0 n v10 s5 (fun g11 => AC P w0 f [.agg ⟨expl g9 0 n⟩, .agg ⟨expl g11 0 n⟩] s5 (fun v12 s13 => pUn .not v12 (fun v14 => pIf v14
      (K4 .ret [vget l3 0, vget l3 1, .bool false, vget l3 3] s13) (pBin P T .add (vget l3 3) (.int .i64 1) (fun v15 => K4 .normal [vget l3 0, vget l3 1, vget l3 2, v15] s13))))))))) (K4 (.exit 0) [vget l3 0, vget l3 1, vget l3 2, vget l3 3] s5)))) [a0, a1, .bool false, .int .i64 0] σ
    (fun x16 l17 s18 => match x16 with | .normal => R (.bool true) s18 | .ret => R (vget l17 2) s18 | .exit i19 => (match Nat.beq i19 0 with | true => R (.bool true) s18 | false => False))))))

theorem eqS_gen [DecidableEq α] {T n f : Nat} {Rel : (Addr → Option Value) → List Value → α → Prop} {v v' : Value} {xs ys : List α}
    (hf : ∀ x, x ∈ xs → ∀ (y : α) (es es' : List Value) (R' : Value → Vw → Prop), Rel (Av.get w0 σ) es x → Rel (Av.get w0 σ) es' y → R' (.bool (decide (x = y))) σ → AC P w0 f [.agg ⟨es⟩, .agg ⟨es'⟩] σ R')
    (h : RSl n Rel (Av.get w0 σ) v xs) (h' : RSl n Rel (Av.get w0 σ) v' ys) {R : Value → Vw → Prop} (hR : R (.bool (decide (xs = ys))) σ) : VeqS P w0 T n f v v' σ R := by
  unfold VeqS
  have hl := h.le
  rw [h.len, h'.len, pBin_ne, pIf_d]
  refine ⟨fun hne => ?_, fun heq => ?_⟩
  · have : xs ≠ ys := fun e => hne (by rw [e])
    simpa [this] using hR
  · have hlen : xs.length = ys.length := by omega
    refine loop_rule (m := xs.length) (fun m l s => ∃ j, s = σ ∧ m + j = xs.length ∧ xs.take j = ys.take j ∧ l = [v, v', .bool false, .int .i64 (j : Nat)]) ?_ ⟨0, rfl, by omega, by simp, rfl⟩
    rintro m l s L ⟨j, rfl, hm, ht, rfl⟩ hL
    simp only [vget, List.getD_cons_zero, List.getD_cons_succ]
    rw [h.len, pBin_lt, pIf_d]
    refine ⟨fun hj => ?_, fun hj => ?_⟩
    · have hj' : j < xs.length := by omega
      have hx := List.getElem?_eq_getElem hj'
      have hy := List.getElem?_eq_getElem (show j < ys.length by omega)
      refine h.at hx fun g hg => ?_
      refine h'.at hy fun g' hg' => ?_
      refine hf _ (List.getElem_mem hj') _ _ _ _ hg hg' ?_
      rw [pUn_not, pIf_b]
      by_cases e : xs[j] = ys[j]
      · refine ⟨fun h => by simp [e] at h, fun _ => ?_⟩
        rw [pBin_add (by omega)]
        refine hL _ _ (m - 1) (by omega) ⟨j + 1, rfl, by omega, ?_, rfl⟩
        rw [List.take_add_one, List.take_add_one, hx, hy, ht, e]
      · refine ⟨fun _ => ?_, fun h => by simp [e] at h⟩
        have : xs ≠ ys := fun e' => by subst e'; exact e rfl
        simpa [this] using hR
    · have hj' : j = xs.length := by omega
      subst hj'
      rw [List.take_length, hlen, List.take_length] at ht
      subst ht
      simpa using hR
end
end Go.Av

/- Lists that lie in rows of our own, each part in rows of its own; the copy of a list of structs. -/
set_option linter.unusedVariables false
set_option linter.unusedSimpArgs false
namespace Go.Av
open Go Go.RowKit

section
variable {P : Program} {w0 : World} {σ σ' : Vw} {α : Type}

/-- What a rule for parts in rows of our own must keep. -/
structure OOk (w0 : World) (n : Nat) (Rel : (Addr → Option Value) → List Value → α → Prop) (O : Vw → List Nat → List Value → α → Prop) : Prop where
  rel : ∀ σ F es x, O σ F es x → Rel (Av.get w0 σ) es x
  frame : ∀ σ σ' F es x, O σ F es x → (∀ b, b ∈ F → σ' b = σ b) → O σ' F es x
  dom : ∀ σ F es x, O σ F es x → ∀ b, b ∈ F → w0.heap.size ≤ b ∧ σ b ≠ none
  nodup : ∀ σ F es x, O σ F es x → F.Nodup
  len : ∀ σ F es x, O σ F es x → es.length = n
  one : ∀ σ F es x, O σ F es x → ∀ c, c ∈ es → c.oneCell' = true

/-- A list in a row of our own, the elements' own parts in other rows. -/
def OSl (w0 : World) (n : Nat) (O : Vw → List Nat → List Value → α → Prop) (σ : Vw) (F : List Nat) (v : Value) (xs : List α) : Prop :=
  xs.length ≤ 9223372036854775807 ∧ F.Nodup ∧ ((v = .slice none 0 0 ∧ xs = [] ∧ F = []) ∨
  ∃ (b off cap : Nat) (r : Row) (pre post : List Value) (css : List (List Value)) (Fs : List (List Nat)), v = .slice (some ⟨b, off, none⟩) xs.length cap ∧ (xs.length ≤ cap ∧ cap ≤ 9223372036854775807) ∧ w0.heap.size ≤ b ∧ σ b = some r ∧ r.cells = pre ++ (css.flatten ++ post) ∧ pre.length = off ∧
    css.length = xs.length ∧ Fs.length = xs.length ∧ F = b :: Fs.flatten ∧ ∀ (j : Nat) (c : List Value) (x : α) (f : List Nat), css[j]? = some c → xs[j]? = some x → Fs[j]? = some f → O σ f c x)

theorem mem_flat {l : List (List Nat)} {b : Nat} (h : b ∈ l.flatten) : ∃ (j : Nat) (f : List Nat), l[j]? = some f ∧ b ∈ f := by
  obtain ⟨f, h1, h2⟩ := List.mem_flatten.1 h
  obtain ⟨j, hj⟩ := List.getElem?_of_mem h1
  exact ⟨j, f, hj, h2⟩

theorem OSl.frame {n : Nat} {Rel : (Addr → Option Value) → List Value → α → Prop} {O : Vw → List Nat → List Value → α → Prop} (ok : OOk w0 n Rel O) {F : List Nat} {v : Value} {xs : List α} (h : OSl w0 n O σ F v xs) (hF : ∀ b, b ∈ F → σ' b = σ b) : OSl w0 n O σ' F v xs := by
  obtain ⟨h1, h2, h3 | ⟨b, off, cap, r, pre, post, css, Fs, g1, gc, g2, g3, g4, g5, g6, g7, g8, g9⟩⟩ := h
  · exact ⟨h1, h2, .inl h3⟩
  · refine ⟨h1, h2, .inr ⟨b, off, cap, r, pre, post, css, Fs, g1, gc, g2, ?_, g4, g5, g6, g7, g8, fun j c x f e1 e2 e3 => ?_⟩⟩
    · rw [hF b (by rw [g8]; exact List.mem_cons_self)]; exact g3
    · refine ok.frame _ _ _ _ _ (g9 j c x f e1 e2 e3) fun i hi => hF i ?_
      rw [g8]
      exact List.mem_cons_of_mem _ (List.mem_flatten.2 ⟨f, List.mem_of_getElem? e3, hi⟩)

theorem OSl.dom {n : Nat} {Rel : (Addr → Option Value) → List Value → α → Prop} {O : Vw → List Nat → List Value → α → Prop} (ok : OOk w0 n Rel O) {F : List Nat} {v : Value} {xs : List α} (h : OSl w0 n O σ F v xs) : ∀ b, b ∈ F → w0.heap.size ≤ b ∧ σ b ≠ none := by
  obtain ⟨h1, h2, ⟨_, _, h3⟩ | ⟨b, off, cap, r, pre, post, css, Fs, g1, gc, g2, g3, g4, g5, g6, g7, g8, g9⟩⟩ := h
  · rw [h3]; intro b hb; cases hb
  · rw [g8]
    intro i hi
    rcases List.mem_cons.1 hi with e | e
    · rw [e]; exact ⟨g2, by rw [g3]; simp⟩
    · obtain ⟨j, f, e1, e2⟩ := mem_flat e
      have hj : j < Fs.length := (List.getElem?_eq_some_iff.1 e1).1
      exact ok.dom _ _ _ _ (g9 j _ _ f (List.getElem?_eq_getElem (by omega)) (List.getElem?_eq_getElem (by omega)) e1) i e2

theorem OSl.rel {n : Nat} {Rel : (Addr → Option Value) → List Value → α → Prop} {O : Vw → List Nat → List Value → α → Prop} (ok : OOk w0 n Rel O) {F : List Nat} {v : Value} {xs : List α} (h : OSl w0 n O σ F v xs) : RSl n Rel (Av.get w0 σ) v xs := by
  obtain ⟨h1, h2, ⟨rfl, rfl, _⟩ | ⟨b, off, cap, r, pre, post, css, Fs, rfl, gc, g2, g3, g4, g5, g6, g7, g8, g9⟩⟩ := h
  · exact ⟨none, 0, rfl, by simp, fun j x hj => by simp at hj⟩
  · have each : ∀ (j : Nat) (c : List Value), css[j]? = some c → c.length = n := fun j c hj => by
      have hlt : j < css.length := (List.getElem?_eq_some_iff.1 hj).1
      exact ok.len _ _ _ _ (g9 j c _ _ hj (List.getElem?_eq_getElem (by omega)) (List.getElem?_eq_getElem (by omega)))
    have hn : ∀ c, c ∈ css → c.length = n := fun c hc => by obtain ⟨j, hj⟩ := List.getElem?_of_mem hc; exact each j c hj
    refine ⟨_, cap, rfl, gc, fun j x hj => ?_⟩
    have hlt : j < css.length := by have := (List.getElem?_eq_some_iff.1 hj).1; omega
    have hcj := List.getElem?_eq_getElem hlt
    refine ⟨_, css[j], rfl, each j _ hcj, fun i hi => ?_, ok.rel _ _ _ _ (g9 j _ x _ hcj hj (List.getElem?_eq_getElem (by omega)))⟩
    rw [addr_add, get_row g2 g3, g4, List.getElem?_append_right (by omega)]
    rw [show off + (j * n + i) - pre.length = j * n + i by omega, List.getElem?_append_left, flat_get css hn j _ hcj i hi]
    rw [flat_len css hn]
    calc j * n + i < j * n + n := by omega
      _ = (j + 1) * n := by rw [Nat.add_mul, Nat.one_mul]
      _ ≤ css.length * n := Nat.mul_le_mul_right n hlt

def VtoS (P : Program) (w0 : World) (T ety n bytes f : Nat) (z : List Value) (a0 : Value) (σ : Vw) (R : Value → Vw → Prop) : Prop :=
  pLen a0 (fun v0 => pMake w0 ety n bytes z v0 v0 σ (fun v1 s2 => pLoop (fun l3 K4 s5 => pLen (vget l3 0) (fun v6 => pBin P T .lss (vget l3 2) v6 (fun v7 => pIf v7
    (pIndexAddr n (vget l3 0) (vget l3 2) (fun v8 => pLoad w0 n v8 s5 (fun g9 => AC P w0 f [.agg ⟨expl g9 0 n⟩] s5 (fun v10 s11 => pIndexAddr n (vget l3 1) (vget l3 2) (fun v12 => pVal true n v10 (pStore v12 (spread n v10) s11
      (fun s13 => pBin P T .add (vget l3 2) (.int .i64 1) (fun v14 => K4 .normal [vget l3 0, vget l3 1, v14] s13)))))))) (K4 (.exit 0) [vget l3 0, vget l3 1, vget l3 2] s5)))) [a0, v1, .int .i64 0] s2
    (fun x15 l16 s17 => match x15 with | .normal => R (vget l16 1) s17 | .ret => False | .exit i18 => (match Nat.beq i18 0 with | true => R (vget l16 1) s17 | false => False))))

theorem toS_gen {T ety n bytes f : Nat} {z : List Value} (hz : z.length = n) {Rel : (Addr → Option Value) → List Value → α → Prop} {O : Vw → List Nat → List Value → α → Prop} (ok : OOk w0 n Rel O) (hmono : ∀ rd rd' es x, Le rd rd' → Rel rd es x → Rel rd' es x) {v : Value} {xs : List α}
    (hf : ∀ x, x ∈ xs → ∀ (s : Vw) (es : List Value) (R' : Value → Vw → Prop), Keeps σ s → Rel (Av.get w0 s) es x → (∀ es' F s', Keeps s s' → O s' F es' x → (∀ b, b ∈ F → s b = none) → R' (.agg ⟨es'⟩) s') → AC P w0 f [.agg ⟨es⟩] s R')
    (h : RSl n Rel (Av.get w0 σ) v xs) (hb : bytes * xs.length ≤ 140737488355328) {R : Value → Vw → Prop} (hR : ∀ v' F σ', Keeps σ σ' → OSl w0 n O σ' F v' xs → (∀ b, b ∈ F → σ b = none) → R v' σ') : VtoS P w0 T ety n bytes f z v σ R := by
  unfold VtoS
  have hl := h.le
  rw [h.len]
  refine pMake_s hb hl fun b e h1 h2 => ?_
  refine loop_rule (m := xs.length) (fun m l s => ∃ (j : Nat) (css : List (List Value)) (Fs : List (List Nat)), m + j = xs.length ∧ css.length = j ∧ Fs.length = j ∧ Keeps σ s ∧ s b = some ⟨e, css.flatten ++ (List.replicate m z).flatten, xs.length * n, (0, 0)⟩ ∧
    (∀ c, c ∈ css → c.length = n) ∧ (b :: Fs.flatten).Nodup ∧ (∀ i, i ∈ Fs.flatten → σ i = none ∧ s i ≠ none) ∧ (∀ (i : Nat) (c : List Value) (x : α) (f : List Nat), css[i]? = some c → xs[i]? = some x → Fs[i]? = some f → O s f c x) ∧ l = [v, .slice (some ⟨b, 0, none⟩) xs.length xs.length, .int .i64 (j : Nat)]) ?_
    ⟨0, [], [], by omega, rfl, rfl, Keeps.put h2, by simp [put_at], by simp, by simp, by simp, by simp, rfl⟩
  rintro m l s L ⟨j, css, Fs, hm, hc, hFs, hk, hrow, hcn, hnd, hdom, hO, rfl⟩ hL
  simp only [vget, List.getD_cons_zero, List.getD_cons_succ]
  rw [h.len, pBin_lt, pIf_d]
  refine ⟨fun hj => ?_, fun hj => ?_⟩
  · have hj' : j < xs.length := by omega
    have hx := List.getElem?_eq_getElem hj'
    refine RSl.at (h.mono hk.le fun es x => hmono _ _ _ _ hk.le) hx fun g hg => ?_
    refine hf _ (List.getElem_mem hj') s _ _ hk hg fun es' F s' hk' hO' hFn => ?_
    obtain ⟨m', rfl⟩ : ∃ m', m = m' + 1 := ⟨m - 1, by omega⟩
    have hlen := ok.len _ _ _ _ hO'
    have hsp : spread n (.agg ⟨es'⟩) = es' := by subst hlen; exact spread_agg es'
    have hrow' := hk' _ _ hrow
    have eV : ∀ A : Prop, pVal true n (.agg ⟨es'⟩) A = A := fun A => propext (pValN hlen (ok.one _ _ _ _ hO'))
    simp only [eV, hsp]
    refine own_store (r := ⟨e, css.flatten ++ (List.replicate (m' + 1) z).flatten, xs.length * n, (0, 0)⟩) (A := css.flatten) (old := z) (new := es') (C := (List.replicate m' z).flatten) hrow' (by simp [List.replicate_succ]) (by rw [flat_len css hcn, hc]) (by omega) hlen hj' ?_
    rw [pBin_add (by omega)]
    have hbF : b ∉ F := fun hbF => by rw [hFn b hbF] at hrow; cases hrow
    have hbFs : b ∉ Fs.flatten := (List.nodup_cons.1 hnd).1
    have hdisj : ∀ i, i ∈ Fs.flatten → i ∉ F := fun i hi hiF => (hdom i hi).2 (hFn i hiF)
    have hput : ∀ i, i ≠ b → (s'.put b { (⟨e, css.flatten ++ (List.replicate (m' + 1) z).flatten, xs.length * n, (0, 0)⟩ : Row) with cells := css.flatten ++ (es' ++ (List.replicate m' z).flatten) }) i = s' i := fun i hi => by simp [Vw.put, hi]
    refine hL _ _ m' rfl ⟨j + 1, css ++ [es'], Fs ++ [F], by omega, by simp [hc], by simp [hFs], (hk.trans hk').fill h2, ?_, ?_, ?_, ?_, ?_, rfl⟩
    · rw [put_at]; simp
    · intro c hc'
      rcases List.mem_append.1 hc' with h' | h'
      · exact hcn c h'
      · rw [List.mem_singleton.1 h']; exact hlen
    · have hFnd := ok.nodup _ _ _ _ hO'
      rw [List.flatten_append]
      simp only [List.flatten_cons, List.flatten_nil, List.append_nil]
      rw [List.nodup_cons]
      refine ⟨fun hm' => ?_, List.nodup_append.2 ⟨(List.nodup_cons.1 hnd).2, hFnd, fun a ha b' hb' e' => hdisj a ha (e' ▸ hb')⟩⟩
      rcases List.mem_append.1 hm' with h' | h'
      · exact hbFs h'
      · exact hbF h'
    · intro i hi
      rw [List.flatten_append] at hi
      simp only [List.flatten_cons, List.flatten_nil, List.append_nil] at hi
      rcases List.mem_append.1 hi with h' | h'
      · have hib : i ≠ b := fun e' => hbFs (e' ▸ h')
        refine ⟨(hdom i h').1, ?_⟩
        rw [hput i hib]
        cases hs : s i with
        | none => exact absurd hs (hdom i h').2
        | some r => rw [hk' i r hs]; simp
      · have hib : i ≠ b := fun e' => hbF (e' ▸ h')
        refine ⟨?_, by rw [hput i hib]; exact (ok.dom _ _ _ _ hO' i h').2⟩
        cases hs : σ i with
        | none => rfl
        | some r => have := hk i r hs; rw [hFn i h'] at this; cases this
    · intro i c x f' e1 e2 e3
      by_cases hi : i < j
      · rw [List.getElem?_append_left (by omega)] at e1 e3
        refine ok.frame _ _ _ _ _ (hO i c x f' e1 e2 e3) fun k hk2 => ?_
        have hkF : k ∈ Fs.flatten := List.mem_flatten.2 ⟨f', List.mem_of_getElem? e3, hk2⟩
        rw [hput k fun e' => hbFs (e' ▸ hkF)]
        cases hs : s k with
        | none => exact absurd hs (hdom k hkF).2
        | some r => exact hk' k r hs
      · have hij : i = j := by
          have := (List.getElem?_eq_some_iff.1 e1).1
          simp [hc] at this
          omega
        subst hij
        rw [List.getElem?_append_right (by omega)] at e1 e3
        simp [hc] at e1
        simp [hFs] at e3
        subst e1 e3
        rw [hx] at e2
        cases e2
        exact ok.frame _ _ _ _ _ hO' fun k hk2 => hput k fun e' => hbF (e' ▸ hk2)
  · have hj' : j = xs.length := by omega
    subst hj'
    have hm0 : m = 0 := by omega
    subst hm0
    refine hR _ (b :: Fs.flatten) s hk ⟨hl, hnd, .inr ⟨b, 0, xs.length, _, [], [], css, Fs, rfl, ⟨Nat.le_refl _, hl⟩, h1, hrow, by simp, rfl, hc, hFs, rfl, hO⟩⟩ fun i hi => ?_
    rcases List.mem_cons.1 hi with e' | e'
    · rw [e']; exact h2
    · exact (hdom i e').1
end
end Go.Av

/- What each function owes, reckoned out. MADE BY PROGRAM (emit.py). -/
set_option linter.unusedVariables false
namespace Go.Proofs.Ytkbhjejalkbogaa
open Go Go.Av

abbrev t_int : Nat := 3
abbrev t_bool : Nat := 4
abbrev t_string : Nat := 9
abbrev t_s_string : Nat := 23
abbrev t_impl_Tree : Nat := 26
abbrev t_s_laws_Tree : Nat := 44
abbrev t_laws_Tree : Nat := 46
abbrev t_s_laws_Mark : Nat := 47
abbrev t_p_impl_Tree : Nat := 69
abbrev t_laws_Mark : Nat := 79
abbrev t_impl_Mark : Nat := 81
abbrev n_laws_FnExactTrailCovers : Nat := 5
abbrev n_spec_TreeOk : Nat := 19
abbrev n_laws_szTree : Nat := 21
abbrev n_laws_szMarkS : Nat := 22
abbrev n_laws_toTree : Nat := 24
abbrev n_laws_toMarkS : Nat := 25
abbrev n_laws_eqTree : Nat := 27
abbrev n_laws_eqMarkS : Nat := 28
abbrev n_spec_TrailCovers : Nat := 29
abbrev n_impl_TrailCovers : Nat := 30
abbrev n_impl_TreeOk : Nat := 39
abbrev n_spec_l1At : Nat := 41
abbrev n_impl_Tree_paths : Nat := 45
abbrev n_spec_l1Count : Nat := 46
abbrev n_spec_l1Parts : Nat := 47
abbrev n_laws_szStringS : Nat := 48
abbrev n_laws_szTreeS : Nat := 49
abbrev n_laws_szMark : Nat := 50
abbrev n_spec_TrailOk : Nat := 51
abbrev n_laws_toStringS : Nat := 53
abbrev n_laws_toTreeS : Nat := 54
abbrev n_laws_toMark : Nat := 55
abbrev n_impl_TrailOk : Nat := 56
abbrev n_laws_eqStringS : Nat := 58
abbrev n_laws_eqTreeS : Nat := 59
abbrev n_laws_eqMark : Nat := 60
abbrev n_spec_l12Covers : Nat := 61
abbrev n_impl_covers : Nat := 62
abbrev n_spec_l1Find : Nat := 70
abbrev n_impl_Tree_sound : Nat := 71
abbrev n_p_impl_Tree_kid : Nat := 72
abbrev n_spec_l1Plain : Nat := 73
abbrev n_spec_l11MarkOk : Nat := 74
abbrev n_spec_l11Less : Nat := 75
abbrev n_spec_l2Within : Nat := 76
abbrev n_spec_l12Names : Nat := 77
abbrev n_spec_l12Kid : Nat := 78
abbrev n_impl_markOk : Nat := 79
abbrev n_slices_Compare_string_string : Nat := 80
abbrev n_impl_under : Nat := 81
abbrev n_impl_either : Nat := 82
abbrev n_spec_l11Marked : Nat := 83
abbrev n_spec_l3Path : Nat := 84
abbrev n_impl_marked : Nat := 85
abbrev n_impl_below : Nat := 86
abbrev n_impl_modeOk : Nat := 99
abbrev n_impl_nameOk : Nat := 100
abbrev n_slices_Index_string_string : Nat := 101
abbrev n_spec_l1In : Nat := 102
abbrev n_spec_l1NameOk : Nat := 103
abbrev n_spec_l2PathOk : Nat := 104
abbrev n_impl_namesOk : Nat := 105
abbrev n_cmp_Compare_string : Nat := 106
abbrev n_impl_begins : Nat := 107
abbrev n_slices_Sort_string_string : Nat := 108
abbrev n_slices_Compact_string_string : Nat := 109
abbrev n_spec_l11Same : Nat := 110
abbrev n_slices_ContainsFunc_impl_Mark_impl_Mark : Nat := 111
abbrev n_impl_marked_c1 : Nat := 112
abbrev n_slices_Equal_string_string : Nat := 113
abbrev n_impl_within : Nat := 118
abbrev n_cmp_isNaN_string : Nat := 119
abbrev n_slices_IndexFunc_impl_Mark_impl_Mark : Nat := 122
theorem is_slices_Sort_string_string : ∃ fn, Try.prog.funcs[n_slices_Sort_string_string]? = some fn ∧ (fn.name == "runtime.NumGoroutine") = false ∧ fn.body.isNone = false := ⟨Try.f108, Try.func108, by kernel_rfl, by kernel_rfl⟩
theorem is_slices_Compact_string_string : ∃ fn, Try.prog.funcs[n_slices_Compact_string_string]? = some fn ∧ (fn.name == "runtime.NumGoroutine") = false ∧ fn.body.isNone = false := ⟨Try.f109, Try.func109, by kernel_rfl, by kernel_rfl⟩
end Go.Proofs.Ytkbhjejalkbogaa

/- What each function owes, reckoned out, part 1. MADE BY PROGRAM (emit.py). -/
set_option linter.unusedVariables false
namespace Go.Proofs.Ytkbhjejalkbogaa
open Go Go.Av

/-- laws.FnExactTrailCovers -/
def kp_laws_FnExactTrailCovers : Nat → Keep
  | 11 => ⟨[], [], [], .step 0 (.step 2 (.step 4 (.step 1 (.step 3 (.step 5 (.step 6 (.step 7 (.done)))))))), [(1, [0]), (3, [0, 1, 2]), (5, [0, 1, 2, 3, 4]), (6, [0, 1, 2, 3, 4, 5]), (7, [0, 1, 2, 3, 4, 5, 6])]⟩
  | 18 => ⟨[], [], [], .step 0 (.step 1 (.step 2 (.step 3 (.step 4 (.done))))), [(2, [1]), (3, [0, 1, 2]), (4, [0, 1, 2, 3])]⟩
  | 20 => ⟨[], [], [], .step 0 (.step 1 (.step 2 (.step 3 (.step 4 (.done))))), [(2, [1]), (3, [0, 1, 2]), (4, [0, 1, 2, 3])]⟩
  | _ => ⟨[], [], [], .done, []⟩
def esc_laws_FnExactTrailCovers : Nat → Bool
  | _ => false
def vc_laws_FnExactTrailCovers (w0 : World) (a0 a1 a2 : Value) (σ : Vw) (R : Value → Vw → Prop) : Prop :=
  pVal true 5 a0 (pVal true 5 a1 (AC Try.prog w0 n_laws_szTree ([Value.agg (⟨[cellOf a0 0, cellOf a0 1, cellOf a0 2, cellOf a0 3, cellOf a0 4]⟩), Value.int IntKind.i64 1048576]) σ (fun v0 s1 => pBin Try.prog 3 BinOp.lss v0 (Value.int IntKind.i64 0) (fun v2 => pIf v2 (R (Value.bool true) s1) (AC Try.prog w0 n_laws_szTree ([Value.agg (⟨[cellOf a1 0, cellOf a1 1, cellOf a1 2, cellOf a1 3, cellOf a1 4]⟩), v0]) s1 (fun v3 s4 => pBin Try.prog 3 BinOp.lss v3 (Value.int IntKind.i64 0) (fun v5 => pIf v5 (R (Value.bool true) s4) (AC Try.prog w0 n_laws_szMarkS [a2, v3] s4 (fun v6 s7 => pBin Try.prog 3 BinOp.lss v6 (Value.int IntKind.i64 0) (fun v8 => pIf v8 (R (Value.bool true) s7) (AC Try.prog w0 n_laws_toTree ([Value.agg (⟨[cellOf a0 0, cellOf a0 1, cellOf a0 2, cellOf a0 3, cellOf a0 4]⟩)]) s7 (fun v9 s10 => AC Try.prog w0 n_laws_toTree ([Value.agg (⟨[cellOf a1 0, cellOf a1 1, cellOf a1 2, cellOf a1 3, cellOf a1 4]⟩)]) s10 (fun v11 s12 => AC Try.prog w0 n_laws_toMarkS [a2] s12 (fun v13 s14 => AC Try.prog w0 n_spec_TrailCovers [v9, v11, v13] s14 (fun v15 s16 => AC Try.prog w0 n_laws_toTree ([Value.agg (⟨[cellOf a0 0, cellOf a0 1, cellOf a0 2, cellOf a0 3, cellOf a0 4]⟩)]) s16 (fun v17 s18 => pVal true 5 v17 (AC Try.prog w0 n_laws_toTree ([Value.agg (⟨[cellOf a1 0, cellOf a1 1, cellOf a1 2, cellOf a1 3, cellOf a1 4]⟩)]) s18 (fun v19 s20 => pVal true 5 v19 (AC Try.prog w0 n_laws_toMarkS [a2] s20 (fun v21 s22 => AC Try.prog w0 n_impl_TrailCovers ([Value.agg (⟨[cellOf v17 0, cellOf v17 1, cellOf v17 2, cellOf v17 3, cellOf v17 4]⟩), Value.agg (⟨[cellOf v19 0, cellOf v19 1, cellOf v19 2, cellOf v19 3, cellOf v19 4]⟩), v21]) s22 (fun v23 s24 => pBin Try.prog 4 BinOp.neq v23 v15 (fun v25 => pIf v25 (R (Value.bool false) s24) (AC Try.prog w0 n_laws_toTree ([Value.agg (⟨[cellOf a0 0, cellOf a0 1, cellOf a0 2, cellOf a0 3, cellOf a0 4]⟩)]) s24 (fun v26 s27 => AC Try.prog w0 n_laws_eqTree ([Value.agg (⟨[cellOf v17 0, cellOf v17 1, cellOf v17 2, cellOf v17 3, cellOf v17 4]⟩), v26]) s27 (fun v28 s29 => pUn UnOp.not v28 (fun v30 => pIf v30 (R (Value.bool false) s29) (AC Try.prog w0 n_laws_toTree ([Value.agg (⟨[cellOf a1 0, cellOf a1 1, cellOf a1 2, cellOf a1 3, cellOf a1 4]⟩)]) s29 (fun v31 s32 => AC Try.prog w0 n_laws_eqTree ([Value.agg (⟨[cellOf v19 0, cellOf v19 1, cellOf v19 2, cellOf v19 3, cellOf v19 4]⟩), v31]) s32 (fun v33 s34 => pUn UnOp.not v33 (fun v35 => pIf v35 (R (Value.bool false) s34) (AC Try.prog w0 n_laws_toMarkS [a2] s34 (fun v36 s37 => AC Try.prog w0 n_laws_eqMarkS [v21, v36] s37 (fun v38 s39 => pUn UnOp.not v38 (fun v40 => pIf v40 (R (Value.bool false) s39) (R (Value.bool true) s39)))))))))))))))))))))))))))))))))))
theorem vc_laws_FnExactTrailCovers_eq (w0 : World) (a0 a1 a2 : Value) (σ : Vw) (R : Value → Vw → Prop) : vc_laws_FnExactTrailCovers w0 a0 a1 a2 σ R = den Try.prog w0 kp_laws_FnExactTrailCovers esc_laws_FnExactTrailCovers (Try.f5.body.getD .skip) (entry Try.f5.ntmps [a0, a1, a2]) σ (retK Try.prog Try.f5.results.toList R) := by kernel_rfl
theorem ac_laws_FnExactTrailCovers {w0 : World} {a0 a1 a2 : Value} {σ : Vw} {R : Value → Vw → Prop} (h : vc_laws_FnExactTrailCovers w0 a0 a1 a2 σ R) : AC Try.prog w0 n_laws_FnExactTrailCovers [a0, a1, a2] σ R := by
  refine ac_rule (fn := Try.f5) (c := Try.f5.body.getD .skip) kp_laws_FnExactTrailCovers esc_laws_FnExactTrailCovers Try.func5 (by kernel_rfl) (by kernel_rfl) ?_
  rw [← vc_laws_FnExactTrailCovers_eq]
  exact h

/-- spec.TreeOk -/
def kp_spec_TreeOk : Nat → Keep
  | _ => ⟨[], [], [], .done, []⟩
def esc_spec_TreeOk : Nat → Bool
  | _ => false
def vc_spec_TreeOk (w0 : World) (a0 : Value) (σ : Vw) (R : Value → Vw → Prop) : Prop :=
  pVal true 5 a0 (pIf (cellOf a0 0) (AC Try.prog w0 n_spec_l1Parts ([Value.agg (⟨[cellOf a0 0, cellOf a0 1, cellOf a0 2, cellOf a0 3, cellOf a0 4]⟩), Value.int IntKind.i64 0]) σ (fun v0 s1 => pIf v0 (AC Try.prog w0 n_spec_l1Count ([Value.agg (⟨[cellOf a0 0, cellOf a0 1, cellOf a0 2, cellOf a0 3, cellOf a0 4]⟩)]) s1 (fun v2 s3 => pBin Try.prog 3 BinOp.leq v2 (Value.int IntKind.i64 30) (fun v4 => R v4 s3))) (R (Value.bool false) s1))) (R (Value.bool false) σ))
theorem vc_spec_TreeOk_eq (w0 : World) (a0 : Value) (σ : Vw) (R : Value → Vw → Prop) : vc_spec_TreeOk w0 a0 σ R = den Try.prog w0 kp_spec_TreeOk esc_spec_TreeOk (Try.f19.body.getD .skip) (entry Try.f19.ntmps [a0]) σ (retK Try.prog Try.f19.results.toList R) := by kernel_rfl
theorem ac_spec_TreeOk {w0 : World} {a0 : Value} {σ : Vw} {R : Value → Vw → Prop} (h : vc_spec_TreeOk w0 a0 σ R) : AC Try.prog w0 n_spec_TreeOk [a0] σ R := by
  refine ac_rule (fn := Try.f19) (c := Try.f19.body.getD .skip) kp_spec_TreeOk esc_spec_TreeOk Try.func19 (by kernel_rfl) (by kernel_rfl) ?_
  rw [← vc_spec_TreeOk_eq]
  exact h

/-- laws.szTree -/
def kp_laws_szTree : Nat → Keep
  | _ => ⟨[], [], [], .done, []⟩
def esc_laws_szTree : Nat → Bool
  | _ => false
def vc_laws_szTree (w0 : World) (a0 a1 : Value) (σ : Vw) (R : Value → Vw → Prop) : Prop :=
  pVal true 5 a0 (pLenS (cellOf a0 2) (fun v0 => pBin Try.prog 3 BinOp.sub a1 v0 (fun v1 => pBin Try.prog 3 BinOp.lss v1 (Value.int IntKind.i64 0) (fun v2 => pIf v2 (R (Value.int IntKind.i64 (-1)) σ) (AC Try.prog w0 n_laws_szStringS [cellOf a0 3, v1] σ (fun v3 s4 => pBin Try.prog 3 BinOp.lss v3 (Value.int IntKind.i64 0) (fun v5 => pIf v5 (R (Value.int IntKind.i64 (-1)) s4) (AC Try.prog w0 n_laws_szTreeS [cellOf a0 4, v3] s4 (fun v6 s7 => pBin Try.prog 3 BinOp.lss v6 (Value.int IntKind.i64 0) (fun v8 => pIf v8 (R (Value.int IntKind.i64 (-1)) s7) (R v6 s7)))))))))))
theorem vc_laws_szTree_eq (w0 : World) (a0 a1 : Value) (σ : Vw) (R : Value → Vw → Prop) : vc_laws_szTree w0 a0 a1 σ R = den Try.prog w0 kp_laws_szTree esc_laws_szTree (Try.f21.body.getD .skip) (entry Try.f21.ntmps [a0, a1]) σ (retK Try.prog Try.f21.results.toList R) := by kernel_rfl
theorem ac_laws_szTree {w0 : World} {a0 a1 : Value} {σ : Vw} {R : Value → Vw → Prop} (h : vc_laws_szTree w0 a0 a1 σ R) : AC Try.prog w0 n_laws_szTree [a0, a1] σ R := by
  refine ac_rule (fn := Try.f21) (c := Try.f21.body.getD .skip) kp_laws_szTree esc_laws_szTree Try.func21 (by kernel_rfl) (by kernel_rfl) ?_
  rw [← vc_laws_szTree_eq]
  exact h

/-- laws.szMarkS -/
def kp_laws_szMarkS : Nat → Keep
  | 5 => ⟨[0, 1, 4, 5], [], [], .done, []⟩
  | _ => ⟨[], [], [], .done, []⟩
def esc_laws_szMarkS : Nat → Bool
  | _ => false
def vc_laws_szMarkS (w0 : World) (a0 a1 : Value) (σ : Vw) (R : Value → Vw → Prop) : Prop :=
  pLen a0 (fun v0 => pBin Try.prog 3 BinOp.sub a1 v0 (fun v1 => pBin Try.prog 3 BinOp.lss v1 (Value.int IntKind.i64 0) (fun v2 => pIf v2 (R (Value.int IntKind.i64 (-1)) σ) (pLoop (fun l3 K4 s5 => pLen (vget l3 0) (fun v6 => pBin Try.prog 3 BinOp.lss (vget l3 3) v6 (fun v7 => pIf v7 (pIndexAddr 2 (vget l3 0) (vget l3 3) (fun v8 => pLoad w0 2 v8 s5 (fun g9 => AC Try.prog w0 n_laws_szMark ([Value.agg (⟨[g9 0, g9 1]⟩), vget l3 1]) s5 (fun v10 s11 => pBin Try.prog 3 BinOp.lss v10 (Value.int IntKind.i64 0) (fun v12 => pIf v12 (K4 AX.ret [vget l3 0, v10, Value.int IntKind.i64 (-1), vget l3 3] s11) (pBin Try.prog 3 BinOp.add (vget l3 3) (Value.int IntKind.i64 1) (fun v13 => K4 AX.normal [vget l3 0, v10, vget l3 2, v13] s11))))))) (K4 (AX.exit 0) [vget l3 0, vget l3 1, vget l3 2, vget l3 3] s5)))) [a0, v1, Value.int IntKind.i64 0, Value.int IntKind.i64 0] σ (fun x14 l15 s16 => match x14 with | .normal => R (vget l15 1) s16 | .ret => R (vget l15 2) s16 | .exit i17 => (match Nat.beq i17 0 with | true => R (vget l15 1) s16 | false => False))))))
theorem vc_laws_szMarkS_eq (w0 : World) (a0 a1 : Value) (σ : Vw) (R : Value → Vw → Prop) : vc_laws_szMarkS w0 a0 a1 σ R = den Try.prog w0 kp_laws_szMarkS esc_laws_szMarkS (Try.f22.body.getD .skip) (entry Try.f22.ntmps [a0, a1]) σ (retK Try.prog Try.f22.results.toList R) := by kernel_rfl
theorem ac_laws_szMarkS {w0 : World} {a0 a1 : Value} {σ : Vw} {R : Value → Vw → Prop} (h : vc_laws_szMarkS w0 a0 a1 σ R) : AC Try.prog w0 n_laws_szMarkS [a0, a1] σ R := by
  refine ac_rule (fn := Try.f22) (c := Try.f22.body.getD .skip) kp_laws_szMarkS esc_laws_szMarkS Try.func22 (by kernel_rfl) (by kernel_rfl) ?_
  rw [← vc_laws_szMarkS_eq]
  exact h

/-- laws.toTree -/
def kp_laws_toTree : Nat → Keep
  | _ => ⟨[], [], [], .done, []⟩
def esc_laws_toTree : Nat → Bool
  | _ => false
def vc_laws_toTree (w0 : World) (a0 : Value) (σ : Vw) (R : Value → Vw → Prop) : Prop :=
  pVal true 5 a0 (pVal false 1 (cellOf a0 0) (pVal false 1 (cellOf a0 1) (pVal false 1 (cellOf a0 2) (AC Try.prog w0 n_laws_toStringS [cellOf a0 3] σ (fun v0 s1 => pVal false 1 v0 (AC Try.prog w0 n_laws_toTreeS [cellOf a0 4] s1 (fun v2 s3 => pVal false 1 v2 (pVal true 5 (Value.agg (⟨[cellOf a0 0, cellOf a0 1, cellOf a0 2, v0, v2]⟩)) (R (Value.agg (⟨[cellOf a0 0, cellOf a0 1, cellOf a0 2, v0, v2]⟩)) s3)))))))))
theorem vc_laws_toTree_eq (w0 : World) (a0 : Value) (σ : Vw) (R : Value → Vw → Prop) : vc_laws_toTree w0 a0 σ R = den Try.prog w0 kp_laws_toTree esc_laws_toTree (Try.f24.body.getD .skip) (entry Try.f24.ntmps [a0]) σ (retK Try.prog Try.f24.results.toList R) := by kernel_rfl
theorem ac_laws_toTree {w0 : World} {a0 : Value} {σ : Vw} {R : Value → Vw → Prop} (h : vc_laws_toTree w0 a0 σ R) : AC Try.prog w0 n_laws_toTree [a0] σ R := by
  refine ac_rule (fn := Try.f24) (c := Try.f24.body.getD .skip) kp_laws_toTree esc_laws_toTree Try.func24 (by kernel_rfl) (by kernel_rfl) ?_
  rw [← vc_laws_toTree_eq]
  exact h

/-- laws.toMarkS -/
def kp_laws_toMarkS : Nat → Keep
  | 3 => ⟨[0, 3, 4], [], [], .done, []⟩
  | _ => ⟨[], [], [], .done, []⟩
def esc_laws_toMarkS : Nat → Bool
  | _ => false
def vc_laws_toMarkS (w0 : World) (a0 : Value) (σ : Vw) (R : Value → Vw → Prop) : Prop :=
  pLen a0 (fun v0 => pMake w0 81 2 32 [Value.slice Option.none 0 0, Value.bool false] v0 v0 σ (fun v1 s2 => pLoop (fun l3 K4 s5 => pLen (vget l3 0) (fun v6 => pBin Try.prog 3 BinOp.lss (vget l3 2) v6 (fun v7 => pIf v7 (pIndexAddr 2 (vget l3 0) (vget l3 2) (fun v8 => pLoad w0 2 v8 s5 (fun g9 => AC Try.prog w0 n_laws_toMark ([Value.agg (⟨[g9 0, g9 1]⟩)]) s5 (fun v10 s11 => pIndexAddr 2 (vget l3 1) (vget l3 2) (fun v12 => pVal true 2 v10 (pStore v12 [cellOf v10 0, cellOf v10 1] s11 (fun s13 => pBin Try.prog 3 BinOp.add (vget l3 2) (Value.int IntKind.i64 1) (fun v14 => K4 AX.normal [vget l3 0, vget l3 1, v14] s13)))))))) (K4 (AX.exit 0) [vget l3 0, vget l3 1, vget l3 2] s5)))) [a0, v1, Value.int IntKind.i64 0] s2 (fun x15 l16 s17 => match x15 with | .normal => R (vget l16 1) s17 | .ret => False | .exit i18 => (match Nat.beq i18 0 with | true => R (vget l16 1) s17 | false => False))))
theorem vc_laws_toMarkS_eq (w0 : World) (a0 : Value) (σ : Vw) (R : Value → Vw → Prop) : vc_laws_toMarkS w0 a0 σ R = den Try.prog w0 kp_laws_toMarkS esc_laws_toMarkS (Try.f25.body.getD .skip) (entry Try.f25.ntmps [a0]) σ (retK Try.prog Try.f25.results.toList R) := by kernel_rfl
theorem ac_laws_toMarkS {w0 : World} {a0 : Value} {σ : Vw} {R : Value → Vw → Prop} (h : vc_laws_toMarkS w0 a0 σ R) : AC Try.prog w0 n_laws_toMarkS [a0] σ R := by
  refine ac_rule (fn := Try.f25) (c := Try.f25.body.getD .skip) kp_laws_toMarkS esc_laws_toMarkS Try.func25 (by kernel_rfl) (by kernel_rfl) ?_
  rw [← vc_laws_toMarkS_eq]
  exact h

/-- laws.eqTree -/
def kp_laws_eqTree : Nat → Keep
  | _ => ⟨[], [], [], .done, []⟩
def esc_laws_eqTree : Nat → Bool
  | _ => false
def vc_laws_eqTree (w0 : World) (a0 a1 : Value) (σ : Vw) (R : Value → Vw → Prop) : Prop :=
  pVal true 5 a0 (pVal true 5 a1 (pBin Try.prog 4 BinOp.neq (cellOf a0 0) (cellOf a1 0) (fun v0 => pIf v0 (R (Value.bool false) σ) (pBin Try.prog 3 BinOp.neq (cellOf a0 1) (cellOf a1 1) (fun v1 => pIf v1 (R (Value.bool false) σ) (pBin Try.prog 9 BinOp.neq (cellOf a0 2) (cellOf a1 2) (fun v2 => pIf v2 (R (Value.bool false) σ) (AC Try.prog w0 n_laws_eqStringS [cellOf a0 3, cellOf a1 3] σ (fun v3 s4 => pUn UnOp.not v3 (fun v5 => pIf v5 (R (Value.bool false) s4) (AC Try.prog w0 n_laws_eqTreeS [cellOf a0 4, cellOf a1 4] s4 (fun v6 s7 => pUn UnOp.not v6 (fun v8 => pIf v8 (R (Value.bool false) s7) (R (Value.bool true) s7))))))))))))))
theorem vc_laws_eqTree_eq (w0 : World) (a0 a1 : Value) (σ : Vw) (R : Value → Vw → Prop) : vc_laws_eqTree w0 a0 a1 σ R = den Try.prog w0 kp_laws_eqTree esc_laws_eqTree (Try.f27.body.getD .skip) (entry Try.f27.ntmps [a0, a1]) σ (retK Try.prog Try.f27.results.toList R) := by kernel_rfl
theorem ac_laws_eqTree {w0 : World} {a0 a1 : Value} {σ : Vw} {R : Value → Vw → Prop} (h : vc_laws_eqTree w0 a0 a1 σ R) : AC Try.prog w0 n_laws_eqTree [a0, a1] σ R := by
  refine ac_rule (fn := Try.f27) (c := Try.f27.body.getD .skip) kp_laws_eqTree esc_laws_eqTree Try.func27 (by kernel_rfl) (by kernel_rfl) ?_
  rw [← vc_laws_eqTree_eq]
  exact h

/-- laws.eqMarkS -/
def kp_laws_eqMarkS : Nat → Keep
  | 4 => ⟨[0, 1, 4, 5], [], [], .done, []⟩
  | 6 => ⟨[], [], [], .step 0 (.step 1 (.step 2 (.step 3 (.step 4 (.step 5 (.step 6 (.step 7 (.step 8 (.step 9 (.done)))))))))), [(2, [0, 1]), (3, [0, 1, 2]), (6, [4, 5]), (7, [4, 5, 6]), (8, [0, 1, 2, 3, 4, 5, 6, 7]), (9, [0, 1, 2, 3, 4, 5, 6, 7, 8])]⟩
  | _ => ⟨[], [], [], .done, []⟩
def esc_laws_eqMarkS : Nat → Bool
  | _ => false
def vc_laws_eqMarkS (w0 : World) (a0 a1 : Value) (σ : Vw) (R : Value → Vw → Prop) : Prop :=
  pLen a0 (fun v0 => pLen a1 (fun v1 => pBin Try.prog 3 BinOp.neq v0 v1 (fun v2 => pIf v2 (R (Value.bool false) σ) (pLoop (fun l3 K4 s5 => pLen (vget l3 0) (fun v6 => pBin Try.prog 3 BinOp.lss (vget l3 3) v6 (fun v7 => pIf v7 (pIndexAddr 2 (vget l3 0) (vget l3 3) (fun v8 => pLoad w0 2 v8 s5 (fun g9 => pIndexAddr 2 (vget l3 1) (vget l3 3) (fun v10 => pLoad w0 2 v10 s5 (fun g11 => AC Try.prog w0 n_laws_eqMark ([Value.agg (⟨[g9 0, g9 1]⟩), Value.agg (⟨[g11 0, g11 1]⟩)]) s5 (fun v12 s13 => pUn UnOp.not v12 (fun v14 => pIf v14 (K4 AX.ret [vget l3 0, vget l3 1, Value.bool false, vget l3 3] s13) (pBin Try.prog 3 BinOp.add (vget l3 3) (Value.int IntKind.i64 1) (fun v15 => K4 AX.normal [vget l3 0, vget l3 1, vget l3 2, v15] s13))))))))) (K4 (AX.exit 0) [vget l3 0, vget l3 1, vget l3 2, vget l3 3] s5)))) [a0, a1, Value.bool false, Value.int IntKind.i64 0] σ (fun x16 l17 s18 => match x16 with | .normal => R (Value.bool true) s18 | .ret => R (vget l17 2) s18 | .exit i19 => (match Nat.beq i19 0 with | true => R (Value.bool true) s18 | false => False))))))
theorem vc_laws_eqMarkS_eq (w0 : World) (a0 a1 : Value) (σ : Vw) (R : Value → Vw → Prop) : vc_laws_eqMarkS w0 a0 a1 σ R = den Try.prog w0 kp_laws_eqMarkS esc_laws_eqMarkS (Try.f28.body.getD .skip) (entry Try.f28.ntmps [a0, a1]) σ (retK Try.prog Try.f28.results.toList R) := by kernel_rfl
theorem ac_laws_eqMarkS {w0 : World} {a0 a1 : Value} {σ : Vw} {R : Value → Vw → Prop} (h : vc_laws_eqMarkS w0 a0 a1 σ R) : AC Try.prog w0 n_laws_eqMarkS [a0, a1] σ R := by
  refine ac_rule (fn := Try.f28) (c := Try.f28.body.getD .skip) kp_laws_eqMarkS esc_laws_eqMarkS Try.func28 (by kernel_rfl) (by kernel_rfl) ?_
  rw [← vc_laws_eqMarkS_eq]
  exact h

/-- spec.TrailCovers -/
def kp_spec_TrailCovers : Nat → Keep
  | _ => ⟨[], [], [], .done, []⟩
def esc_spec_TrailCovers : Nat → Bool
  | 18 => true
  | _ => false
def vc_spec_TrailCovers (w0 : World) (a0 a1 a2 : Value) (σ : Vw) (R : Value → Vw → Prop) : Prop :=
  pVal true 5 a0 (pVal true 5 a1 (AC Try.prog w0 n_spec_TreeOk ([Value.agg (⟨[cellOf a0 0, cellOf a0 1, cellOf a0 2, cellOf a0 3, cellOf a0 4]⟩)]) σ (fun v0 s1 => pIf v0 (AC Try.prog w0 n_spec_TreeOk ([Value.agg (⟨[cellOf a1 0, cellOf a1 1, cellOf a1 2, cellOf a1 3, cellOf a1 4]⟩)]) s1 (fun v2 s3 => pIf v2 (AC Try.prog w0 n_spec_TrailOk [a2] s3 (fun v4 s5 => pIf v4 (pNew w0 9 [] s5 (fun n6 s7 => AC Try.prog w0 n_spec_l12Covers ([Value.slice (Option.some (Addr.mk n6 0 Option.none)) 0 0, Value.agg (⟨[cellOf a0 0, cellOf a0 1, cellOf a0 2, cellOf a0 3, cellOf a0 4]⟩), Value.bool true, Value.agg (⟨[cellOf a1 0, cellOf a1 1, cellOf a1 2, cellOf a1 3, cellOf a1 4]⟩), Value.bool true, a2]) s7 (fun v8 s9 => R v8 s9))) (R (Value.bool false) s5))) (R (Value.bool false) s3))) (R (Value.bool false) s1))))
theorem vc_spec_TrailCovers_eq (w0 : World) (a0 a1 a2 : Value) (σ : Vw) (R : Value → Vw → Prop) : vc_spec_TrailCovers w0 a0 a1 a2 σ R = den Try.prog w0 kp_spec_TrailCovers esc_spec_TrailCovers (Try.f29.body.getD .skip) (entry Try.f29.ntmps [a0, a1, a2]) σ (retK Try.prog Try.f29.results.toList R) := by kernel_rfl
theorem ac_spec_TrailCovers {w0 : World} {a0 a1 a2 : Value} {σ : Vw} {R : Value → Vw → Prop} (h : vc_spec_TrailCovers w0 a0 a1 a2 σ R) : AC Try.prog w0 n_spec_TrailCovers [a0, a1, a2] σ R := by
  refine ac_rule (fn := Try.f29) (c := Try.f29.body.getD .skip) kp_spec_TrailCovers esc_spec_TrailCovers Try.func29 (by kernel_rfl) (by kernel_rfl) ?_
  rw [← vc_spec_TrailCovers_eq]
  exact h

/-- impl.TrailCovers -/
def kp_impl_TrailCovers : Nat → Keep
  | _ => ⟨[], [], [], .done, []⟩
def esc_impl_TrailCovers : Nat → Bool
  | 3 => true
  | 4 => true
  | _ => false
def vc_impl_TrailCovers (w0 : World) (a0 a1 a2 : Value) (σ : Vw) (R : Value → Vw → Prop) : Prop :=
  pVal true 5 a0 (pNew w0 26 [cellOf a0 0, cellOf a0 1, cellOf a0 2, cellOf a0 3, cellOf a0 4] σ (fun n0 s1 => pVal true 5 a1 (pNew w0 26 [cellOf a1 0, cellOf a1 1, cellOf a1 2, cellOf a1 3, cellOf a1 4] s1 (fun n2 s3 => pLoad w0 5 (Value.pointer (Option.some (Addr.mk n0 0 Option.none))) s3 (fun g4 => AC Try.prog w0 n_impl_TreeOk ([Value.agg (⟨[g4 0, g4 1, g4 2, g4 3, g4 4]⟩)]) s3 (fun v5 s6 => pIf v5 (pLoad w0 5 (Value.pointer (Option.some (Addr.mk n2 0 Option.none))) s6 (fun g7 => AC Try.prog w0 n_impl_TreeOk ([Value.agg (⟨[g7 0, g7 1, g7 2, g7 3, g7 4]⟩)]) s6 (fun v8 s9 => pIf v8 (AC Try.prog w0 n_impl_TrailOk [a2] s9 (fun v10 s11 => pIf v10 (AC Try.prog w0 n_impl_covers [Value.slice Option.none 0 0, Value.pointer (Option.some (Addr.mk n0 0 Option.none)), Value.pointer (Option.some (Addr.mk n2 0 Option.none)), a2] s11 (fun v12 s13 => R v12 s13)) (R (Value.bool false) s11))) (R (Value.bool false) s9)))) (R (Value.bool false) s6)))))))
theorem vc_impl_TrailCovers_eq (w0 : World) (a0 a1 a2 : Value) (σ : Vw) (R : Value → Vw → Prop) : vc_impl_TrailCovers w0 a0 a1 a2 σ R = den Try.prog w0 kp_impl_TrailCovers esc_impl_TrailCovers (Try.f30.body.getD .skip) (entry Try.f30.ntmps [a0, a1, a2]) σ (retK Try.prog Try.f30.results.toList R) := by kernel_rfl
theorem ac_impl_TrailCovers {w0 : World} {a0 a1 a2 : Value} {σ : Vw} {R : Value → Vw → Prop} (h : vc_impl_TrailCovers w0 a0 a1 a2 σ R) : AC Try.prog w0 n_impl_TrailCovers [a0, a1, a2] σ R := by
  refine ac_rule (fn := Try.f30) (c := Try.f30.body.getD .skip) kp_impl_TrailCovers esc_impl_TrailCovers Try.func30 (by kernel_rfl) (by kernel_rfl) ?_
  rw [← vc_impl_TrailCovers_eq]
  exact h

/-- impl.TreeOk -/
def kp_impl_TreeOk : Nat → Keep
  | _ => ⟨[], [], [], .done, []⟩
def esc_impl_TreeOk : Nat → Bool
  | _ => false
def vc_impl_TreeOk (w0 : World) (a0 : Value) (σ : Vw) (R : Value → Vw → Prop) : Prop :=
  pVal true 5 a0 (pIf (cellOf a0 0) (AC Try.prog w0 n_impl_Tree_sound ([Value.agg (⟨[cellOf a0 0, cellOf a0 1, cellOf a0 2, cellOf a0 3, cellOf a0 4]⟩), Value.int IntKind.i64 0]) σ (fun v0 s1 => pIf v0 (AC Try.prog w0 n_impl_Tree_paths ([Value.agg (⟨[cellOf a0 0, cellOf a0 1, cellOf a0 2, cellOf a0 3, cellOf a0 4]⟩)]) s1 (fun v2 s3 => pBin Try.prog 3 BinOp.leq v2 (Value.int IntKind.i64 31) (fun v4 => R v4 s3))) (R (Value.bool false) s1))) (R (Value.bool false) σ))
theorem vc_impl_TreeOk_eq (w0 : World) (a0 : Value) (σ : Vw) (R : Value → Vw → Prop) : vc_impl_TreeOk w0 a0 σ R = den Try.prog w0 kp_impl_TreeOk esc_impl_TreeOk (Try.f39.body.getD .skip) (entry Try.f39.ntmps [a0]) σ (retK Try.prog Try.f39.results.toList R) := by kernel_rfl
theorem ac_impl_TreeOk {w0 : World} {a0 : Value} {σ : Vw} {R : Value → Vw → Prop} (h : vc_impl_TreeOk w0 a0 σ R) : AC Try.prog w0 n_impl_TreeOk [a0] σ R := by
  refine ac_rule (fn := Try.f39) (c := Try.f39.body.getD .skip) kp_impl_TreeOk esc_impl_TreeOk Try.func39 (by kernel_rfl) (by kernel_rfl) ?_
  rw [← vc_impl_TreeOk_eq]
  exact h

/-- spec.l1At -/
def kp_spec_l1At : Nat → Keep
  | 3 => ⟨[], [], [], .step 0 (.step 1 (.step 2 (.step 3 (.step 4 (.step 5 (.done)))))), [(2, [1]), (3, [1, 2]), (4, [0, 1, 2, 3]), (5, [0, 1, 2, 3, 4])]⟩
  | 6 => ⟨[], [], [], .step 0 (.step 1 (.step 2 (.step 3 (.step 4 (.step 5 (.step 6 (.step 7 (.step 8 (.step 9 (.step 10 (.step 11 (.done)))))))))))), [(1, [0]), (3, [0, 1, 2]), (4, [0, 1, 2, 3]), (6, [5]), (7, [0, 1, 2, 3, 4, 5, 6]), (8, [0, 1, 2, 3, 4, 5, 6, 7]), (9, [0, 1, 2, 3, 4, 5, 6, 7]), (10, [0, 1, 2, 3, 4, 5, 6, 7, 8, 9]), (11, [0, 1, 2, 3, 4, 5, 6, 7, 8, 9, 10])]⟩
  | _ => ⟨[], [], [], .done, []⟩
def esc_spec_l1At : Nat → Bool
  | _ => false
def vc_spec_l1At (w0 : World) (a0 a1 : Value) (σ : Vw) (R : Value → Vw → Prop) : Prop :=
  pVal true 5 a0 (pLen a1 (fun v0 => pBin Try.prog 3 BinOp.eql v0 (Value.int IntKind.i64 0) (fun v1 => pIf v1 (pVal true 5 (Value.agg (⟨[cellOf a0 0, cellOf a0 1, cellOf a0 2, cellOf a0 3, cellOf a0 4]⟩)) (R (Value.tuple (⟨[Value.agg (⟨[cellOf a0 0, cellOf a0 1, cellOf a0 2, cellOf a0 3, cellOf a0 4]⟩), Value.bool true]⟩)) σ)) (pIndexAddr 1 a1 (Value.int IntKind.i64 0) (fun v2 => pLoad w0 1 v2 σ (fun g3 => AC Try.prog w0 n_spec_l1Find ([Value.agg (⟨[cellOf a0 0, cellOf a0 1, cellOf a0 2, cellOf a0 3, cellOf a0 4]⟩), g3 0]) σ (fun v4 s5 => pBin Try.prog 3 BinOp.lss v4 (Value.int IntKind.i64 0) (fun v6 => pIf v6 (pVal true 5 (Value.agg (⟨[Value.bool false, Value.int IntKind.i64 0, Value.string ({ data := #[] }), Value.slice Option.none 0 0, Value.slice Option.none 0 0]⟩)) (R (Value.tuple (⟨[Value.agg (⟨[Value.bool false, Value.int IntKind.i64 0, Value.string ({ data := #[] }), Value.slice Option.none 0 0, Value.slice Option.none 0 0]⟩), Value.bool false]⟩)) s5)) (pIndexAddr 5 (cellOf a0 4) v4 (fun v7 => pLoad w0 5 v7 s5 (fun g8 => pSlice 1 a1 (Option.some (Value.int IntKind.i64 1)) Option.none (fun v9 => AC Try.prog w0 n_spec_l1At ([Value.agg (⟨[g8 0, g8 1, g8 2, g8 3, g8 4]⟩), v9]) s5 (fun v10 s11 => pExtract v10 0 (fun v12 => pExtract v10 1 (fun v13 => pVal true 5 v12 (R (Value.tuple (⟨[Value.agg (⟨[cellOf v12 0, cellOf v12 1, cellOf v12 2, cellOf v12 3, cellOf v12 4]⟩), v13]⟩)) s11))))))))))))))))
theorem vc_spec_l1At_eq (w0 : World) (a0 a1 : Value) (σ : Vw) (R : Value → Vw → Prop) : vc_spec_l1At w0 a0 a1 σ R = den Try.prog w0 kp_spec_l1At esc_spec_l1At (Try.f41.body.getD .skip) (entry Try.f41.ntmps [a0, a1]) σ (retK Try.prog Try.f41.results.toList R) := by kernel_rfl
theorem ac_spec_l1At {w0 : World} {a0 a1 : Value} {σ : Vw} {R : Value → Vw → Prop} (h : vc_spec_l1At w0 a0 a1 σ R) : AC Try.prog w0 n_spec_l1At [a0, a1] σ R := by
  refine ac_rule (fn := Try.f41) (c := Try.f41.body.getD .skip) kp_spec_l1At esc_spec_l1At Try.func41 (by kernel_rfl) (by kernel_rfl) ?_
  rw [← vc_spec_l1At_eq]
  exact h

/-- (impl.Tree).paths -/
def kp_impl_Tree_paths : Nat → Keep
  | 3 => ⟨[3, 7, 8, 9], [], [], .done, []⟩
  | _ => ⟨[], [], [], .done, []⟩
def esc_impl_Tree_paths : Nat → Bool
  | _ => false
def vc_impl_Tree_paths (w0 : World) (a0 : Value) (σ : Vw) (R : Value → Vw → Prop) : Prop :=
  pVal true 5 a0 (pLen (cellOf a0 4) (fun v0 => pLoop (fun l1 K2 s3 => pBin Try.prog 3 BinOp.lss (vget l1 3) (vget l1 2) (fun v4 => pIf v4 (pIndexAddr 5 (vget l1 1) (vget l1 3) (fun v5 => pLoad w0 5 v5 s3 (fun g6 => pVal true 5 (Value.agg (⟨[g6 0, g6 1, g6 2, g6 3, g6 4]⟩)) (AC Try.prog w0 n_impl_Tree_paths ([Value.agg (⟨[g6 0, g6 1, g6 2, g6 3, g6 4]⟩)]) s3 (fun v7 s8 => pBin Try.prog 3 BinOp.add (vget l1 0) v7 (fun v9 => pBin Try.prog 3 BinOp.add (vget l1 3) (Value.int IntKind.i64 1) (fun v10 => K2 AX.normal [v9, vget l1 1, vget l1 2, v10] s8))))))) (K2 (AX.exit 0) [vget l1 0, vget l1 1, vget l1 2, vget l1 3] s3))) [Value.int IntKind.i64 1, cellOf a0 4, v0, Value.int IntKind.i64 0] σ (fun x11 l12 s13 => match x11 with | .normal => R (vget l12 0) s13 | .ret => False | .exit i14 => (match Nat.beq i14 0 with | true => R (vget l12 0) s13 | false => False))))
theorem vc_impl_Tree_paths_eq (w0 : World) (a0 : Value) (σ : Vw) (R : Value → Vw → Prop) : vc_impl_Tree_paths w0 a0 σ R = den Try.prog w0 kp_impl_Tree_paths esc_impl_Tree_paths (Try.f45.body.getD .skip) (entry Try.f45.ntmps [a0]) σ (retK Try.prog Try.f45.results.toList R) := by kernel_rfl
theorem ac_impl_Tree_paths {w0 : World} {a0 : Value} {σ : Vw} {R : Value → Vw → Prop} (h : vc_impl_Tree_paths w0 a0 σ R) : AC Try.prog w0 n_impl_Tree_paths [a0] σ R := by
  refine ac_rule (fn := Try.f45) (c := Try.f45.body.getD .skip) kp_impl_Tree_paths esc_impl_Tree_paths Try.func45 (by kernel_rfl) (by kernel_rfl) ?_
  rw [← vc_impl_Tree_paths_eq]
  exact h

/-- spec.l1Count -/
def kp_spec_l1Count : Nat → Keep
  | 3 => ⟨[3, 4], [(1, 5)], [1], .done, []⟩
  | _ => ⟨[], [], [], .done, []⟩
def esc_spec_l1Count : Nat → Bool
  | _ => false
def vc_spec_l1Count (w0 : World) (a0 : Value) (σ : Vw) (R : Value → Vw → Prop) : Prop :=
  pVal true 5 a0 (pLen (cellOf a0 4) (fun v0 => pLoop (fun l1 K2 s3 => pLen (vget l1 6) (fun v4 => pBin Try.prog 3 BinOp.lss (vget l1 1) v4 (fun v5 => pIf v5 (pIndexAddr 5 (vget l1 6) (vget l1 1) (fun v6 => pLoad w0 5 v6 s3 (fun g7 => AC Try.prog w0 n_spec_l1Count ([Value.agg (⟨[g7 0, g7 1, g7 2, g7 3, g7 4]⟩)]) s3 (fun v8 s9 => pBin Try.prog 3 BinOp.add (vget l1 0) v8 (fun v10 => pBin Try.prog 3 BinOp.add (vget l1 1) (Value.int IntKind.i64 1) (fun v11 => K2 AX.normal [v10, v11, vget l1 2, vget l1 3, vget l1 4, vget l1 5, vget l1 6] s9)))))) (K2 (AX.exit 0) [vget l1 0, vget l1 1, vget l1 2, vget l1 3, vget l1 4, vget l1 5, vget l1 6] s3)))) [v0, Value.int IntKind.i64 0, cellOf a0 0, cellOf a0 1, cellOf a0 2, cellOf a0 3, cellOf a0 4] σ (fun x12 l13 s14 => match x12 with | .normal => R (vget l13 0) s14 | .ret => False | .exit i15 => (match Nat.beq i15 0 with | true => R (vget l13 0) s14 | false => False))))
theorem vc_spec_l1Count_eq (w0 : World) (a0 : Value) (σ : Vw) (R : Value → Vw → Prop) : vc_spec_l1Count w0 a0 σ R = den Try.prog w0 kp_spec_l1Count esc_spec_l1Count (Try.f46.body.getD .skip) (entry Try.f46.ntmps [a0]) σ (retK Try.prog Try.f46.results.toList R) := by kernel_rfl
theorem ac_spec_l1Count {w0 : World} {a0 : Value} {σ : Vw} {R : Value → Vw → Prop} (h : vc_spec_l1Count w0 a0 σ R) : AC Try.prog w0 n_spec_l1Count [a0] σ R := by
  refine ac_rule (fn := Try.f46) (c := Try.f46.body.getD .skip) kp_spec_l1Count esc_spec_l1Count Try.func46 (by kernel_rfl) (by kernel_rfl) ?_
  rw [← vc_spec_l1Count_eq]
  exact h

/-- spec.l1Parts -/
def kp_spec_l1Parts : Nat → Keep
  | 4 => ⟨[1, 4, 5], [(2, 5)], [2], .done, []⟩
  | _ => ⟨[], [], [], .done, []⟩
def esc_spec_l1Parts : Nat → Bool
  | _ => false
def vc_spec_l1Parts (w0 : World) (a0 a1 : Value) (σ : Vw) (R : Value → Vw → Prop) : Prop :=
  pVal true 5 a0 (AC Try.prog w0 n_spec_l1Plain ([Value.agg (⟨[cellOf a0 0, cellOf a0 1, cellOf a0 2, cellOf a0 3, cellOf a0 4]⟩)]) σ (fun v0 s1 => pUn UnOp.not v0 (fun v2 => pIf v2 (R (Value.bool false) s1) (pBin Try.prog 3 BinOp.gtr a1 (Value.int IntKind.i64 4) (fun v3 => pIf v3 (R (Value.bool false) s1) (pLoop (fun l4 K5 s6 => pLen (vget l4 7) (fun v7 => pBin Try.prog 3 BinOp.lss (vget l4 2) v7 (fun v8 => pIf v8 (pIndexAddr 5 (vget l4 7) (vget l4 2) (fun v9 => pLoad w0 5 v9 s6 (fun g10 => pBin Try.prog 3 BinOp.add (vget l4 0) (Value.int IntKind.i64 1) (fun v11 => AC Try.prog w0 n_spec_l1Parts ([Value.agg (⟨[g10 0, g10 1, g10 2, g10 3, g10 4]⟩), v11]) s6 (fun v12 s13 => pUn UnOp.not v12 (fun v14 => pIf v14 (K5 AX.ret [vget l4 0, Value.bool false, vget l4 2, vget l4 3, vget l4 4, vget l4 5, vget l4 6, vget l4 7] s13) (pBin Try.prog 3 BinOp.add (vget l4 2) (Value.int IntKind.i64 1) (fun v15 => K5 AX.normal [vget l4 0, vget l4 1, v15, vget l4 3, vget l4 4, vget l4 5, vget l4 6, vget l4 7] s13)))))))) (K5 (AX.exit 0) [vget l4 0, vget l4 1, vget l4 2, vget l4 3, vget l4 4, vget l4 5, vget l4 6, vget l4 7] s6)))) [a1, Value.bool false, Value.int IntKind.i64 0, cellOf a0 0, cellOf a0 1, cellOf a0 2, cellOf a0 3, cellOf a0 4] s1 (fun x16 l17 s18 => match x16 with | .normal => R (Value.bool true) s18 | .ret => R (vget l17 1) s18 | .exit i19 => (match Nat.beq i19 0 with | true => R (Value.bool true) s18 | false => False))))))))
theorem vc_spec_l1Parts_eq (w0 : World) (a0 a1 : Value) (σ : Vw) (R : Value → Vw → Prop) : vc_spec_l1Parts w0 a0 a1 σ R = den Try.prog w0 kp_spec_l1Parts esc_spec_l1Parts (Try.f47.body.getD .skip) (entry Try.f47.ntmps [a0, a1]) σ (retK Try.prog Try.f47.results.toList R) := by kernel_rfl
theorem ac_spec_l1Parts {w0 : World} {a0 a1 : Value} {σ : Vw} {R : Value → Vw → Prop} (h : vc_spec_l1Parts w0 a0 a1 σ R) : AC Try.prog w0 n_spec_l1Parts [a0, a1] σ R := by
  refine ac_rule (fn := Try.f47) (c := Try.f47.body.getD .skip) kp_spec_l1Parts esc_spec_l1Parts Try.func47 (by kernel_rfl) (by kernel_rfl) ?_
  rw [← vc_spec_l1Parts_eq]
  exact h

/-- laws.szStringS -/
def kp_laws_szStringS : Nat → Keep
  | 5 => ⟨[0, 1, 4, 5], [], [], .done, []⟩
  | _ => ⟨[], [], [], .done, []⟩
def esc_laws_szStringS : Nat → Bool
  | _ => false
def vc_laws_szStringS (w0 : World) (a0 a1 : Value) (σ : Vw) (R : Value → Vw → Prop) : Prop :=
  pLen a0 (fun v0 => pBin Try.prog 3 BinOp.sub a1 v0 (fun v1 => pBin Try.prog 3 BinOp.lss v1 (Value.int IntKind.i64 0) (fun v2 => pIf v2 (R (Value.int IntKind.i64 (-1)) σ) (pLoop (fun l3 K4 s5 => pLen (vget l3 0) (fun v6 => pBin Try.prog 3 BinOp.lss (vget l3 3) v6 (fun v7 => pIf v7 (pIndexAddr 1 (vget l3 0) (vget l3 3) (fun v8 => pLoad w0 1 v8 s5 (fun g9 => pLenS (g9 0) (fun v10 => pBin Try.prog 3 BinOp.sub (vget l3 1) v10 (fun v11 => pBin Try.prog 3 BinOp.lss v11 (Value.int IntKind.i64 0) (fun v12 => pIf v12 (K4 AX.ret [vget l3 0, v11, Value.int IntKind.i64 (-1), vget l3 3] s5) (pBin Try.prog 3 BinOp.add (vget l3 3) (Value.int IntKind.i64 1) (fun v13 => K4 AX.normal [vget l3 0, v11, vget l3 2, v13] s5)))))))) (K4 (AX.exit 0) [vget l3 0, vget l3 1, vget l3 2, vget l3 3] s5)))) [a0, v1, Value.int IntKind.i64 0, Value.int IntKind.i64 0] σ (fun x14 l15 s16 => match x14 with | .normal => R (vget l15 1) s16 | .ret => R (vget l15 2) s16 | .exit i17 => (match Nat.beq i17 0 with | true => R (vget l15 1) s16 | false => False))))))
theorem vc_laws_szStringS_eq (w0 : World) (a0 a1 : Value) (σ : Vw) (R : Value → Vw → Prop) : vc_laws_szStringS w0 a0 a1 σ R = den Try.prog w0 kp_laws_szStringS esc_laws_szStringS (Try.f48.body.getD .skip) (entry Try.f48.ntmps [a0, a1]) σ (retK Try.prog Try.f48.results.toList R) := by kernel_rfl
theorem ac_laws_szStringS {w0 : World} {a0 a1 : Value} {σ : Vw} {R : Value → Vw → Prop} (h : vc_laws_szStringS w0 a0 a1 σ R) : AC Try.prog w0 n_laws_szStringS [a0, a1] σ R := by
  refine ac_rule (fn := Try.f48) (c := Try.f48.body.getD .skip) kp_laws_szStringS esc_laws_szStringS Try.func48 (by kernel_rfl) (by kernel_rfl) ?_
  rw [← vc_laws_szStringS_eq]
  exact h

/-- laws.szTreeS -/
def kp_laws_szTreeS : Nat → Keep
  | 5 => ⟨[0, 1, 4, 5], [], [], .done, []⟩
  | _ => ⟨[], [], [], .done, []⟩
def esc_laws_szTreeS : Nat → Bool
  | _ => false
def vc_laws_szTreeS (w0 : World) (a0 a1 : Value) (σ : Vw) (R : Value → Vw → Prop) : Prop :=
  pLen a0 (fun v0 => pBin Try.prog 3 BinOp.sub a1 v0 (fun v1 => pBin Try.prog 3 BinOp.lss v1 (Value.int IntKind.i64 0) (fun v2 => pIf v2 (R (Value.int IntKind.i64 (-1)) σ) (pLoop (fun l3 K4 s5 => pLen (vget l3 0) (fun v6 => pBin Try.prog 3 BinOp.lss (vget l3 3) v6 (fun v7 => pIf v7 (pIndexAddr 5 (vget l3 0) (vget l3 3) (fun v8 => pLoad w0 5 v8 s5 (fun g9 => AC Try.prog w0 n_laws_szTree ([Value.agg (⟨[g9 0, g9 1, g9 2, g9 3, g9 4]⟩), vget l3 1]) s5 (fun v10 s11 => pBin Try.prog 3 BinOp.lss v10 (Value.int IntKind.i64 0) (fun v12 => pIf v12 (K4 AX.ret [vget l3 0, v10, Value.int IntKind.i64 (-1), vget l3 3] s11) (pBin Try.prog 3 BinOp.add (vget l3 3) (Value.int IntKind.i64 1) (fun v13 => K4 AX.normal [vget l3 0, v10, vget l3 2, v13] s11))))))) (K4 (AX.exit 0) [vget l3 0, vget l3 1, vget l3 2, vget l3 3] s5)))) [a0, v1, Value.int IntKind.i64 0, Value.int IntKind.i64 0] σ (fun x14 l15 s16 => match x14 with | .normal => R (vget l15 1) s16 | .ret => R (vget l15 2) s16 | .exit i17 => (match Nat.beq i17 0 with | true => R (vget l15 1) s16 | false => False))))))
theorem vc_laws_szTreeS_eq (w0 : World) (a0 a1 : Value) (σ : Vw) (R : Value → Vw → Prop) : vc_laws_szTreeS w0 a0 a1 σ R = den Try.prog w0 kp_laws_szTreeS esc_laws_szTreeS (Try.f49.body.getD .skip) (entry Try.f49.ntmps [a0, a1]) σ (retK Try.prog Try.f49.results.toList R) := by kernel_rfl
theorem ac_laws_szTreeS {w0 : World} {a0 a1 : Value} {σ : Vw} {R : Value → Vw → Prop} (h : vc_laws_szTreeS w0 a0 a1 σ R) : AC Try.prog w0 n_laws_szTreeS [a0, a1] σ R := by
  refine ac_rule (fn := Try.f49) (c := Try.f49.body.getD .skip) kp_laws_szTreeS esc_laws_szTreeS Try.func49 (by kernel_rfl) (by kernel_rfl) ?_
  rw [← vc_laws_szTreeS_eq]
  exact h

/-- laws.szMark -/
def kp_laws_szMark : Nat → Keep
  | _ => ⟨[], [], [], .done, []⟩
def esc_laws_szMark : Nat → Bool
  | _ => false
def vc_laws_szMark (w0 : World) (a0 a1 : Value) (σ : Vw) (R : Value → Vw → Prop) : Prop :=
  pVal true 2 a0 (AC Try.prog w0 n_laws_szStringS [cellOf a0 0, a1] σ (fun v0 s1 => pBin Try.prog 3 BinOp.lss v0 (Value.int IntKind.i64 0) (fun v2 => pIf v2 (R (Value.int IntKind.i64 (-1)) s1) (R v0 s1))))
theorem vc_laws_szMark_eq (w0 : World) (a0 a1 : Value) (σ : Vw) (R : Value → Vw → Prop) : vc_laws_szMark w0 a0 a1 σ R = den Try.prog w0 kp_laws_szMark esc_laws_szMark (Try.f50.body.getD .skip) (entry Try.f50.ntmps [a0, a1]) σ (retK Try.prog Try.f50.results.toList R) := by kernel_rfl
theorem ac_laws_szMark {w0 : World} {a0 a1 : Value} {σ : Vw} {R : Value → Vw → Prop} (h : vc_laws_szMark w0 a0 a1 σ R) : AC Try.prog w0 n_laws_szMark [a0, a1] σ R := by
  refine ac_rule (fn := Try.f50) (c := Try.f50.body.getD .skip) kp_laws_szMark esc_laws_szMark Try.func50 (by kernel_rfl) (by kernel_rfl) ?_
  rw [← vc_laws_szMark_eq]
  exact h

/-- spec.TrailOk -/
def kp_spec_TrailOk : Nat → Keep
  | 2 => ⟨[0, 2, 3], [], [], .done, []⟩
  | 4 => ⟨[], [], [], .step 0 (.step 1 (.step 2 (.step 3 (.step 4 (.step 5 (.step 6 (.step 7 (.step 8 (.step 9 (.step 10 (.step 11 (.step 12 (.step 13 (.step 14 (.step 15 (.step 16 (.step 17 (.step 18 (.step 19 (.step 20 (.step 21 (.step 22 (.step 23 (.step 24 (.done))))))))))))))))))))))))), [(2, [0, 1]), (3, [0, 1, 2]), (4, [0, 1, 2, 3]), (5, [0, 1, 2, 3, 4]), (6, [0, 1, 2, 3, 4, 5]), (7, [0, 1, 2, 3, 4, 5, 6]), (8, [0, 1, 2, 3, 4, 5, 6, 7]), (9, [0, 1, 2, 3, 4, 5, 6, 7, 8]), (10, [0, 1, 2, 3, 4, 5, 6, 7, 8, 9]), (11, [0, 1, 2, 3, 4, 5, 6, 7, 8, 9]), (12, [0, 1, 2, 3, 4, 5, 6, 7, 8, 9, 11]), (13, [0, 1, 2, 3, 4, 5, 6, 7, 8, 9, 10, 11, 12]), (14, [0, 1, 2, 3, 4, 5, 6, 7, 8, 9, 10, 11, 12, 13]), (15, [0, 1, 2, 3, 4, 5, 6, 7, 8, 9, 10, 11, 12, 13, 14]), (16, [0, 1, 2, 3, 4, 5, 6, 7, 8, 9]), (17, [0, 1, 2, 3, 4, 5, 6, 7, 8, 9]), (18, [0, 1, 2, 3, 4, 5, 6, 7, 8, 9, 16, 17]), (19, [0, 1, 2, 3, 4, 5, 6, 7, 8, 9, 16, 17, 18]), (20, [0, 1, 2, 3, 4, 5, 6, 7, 8, 9, 16, 17, 18, 19]), (21, [0, 1, 2, 3, 4, 5, 6, 7, 8, 9, 10, 11, 12, 13, 14, 15, 16, 17, 18, 19, 20]), (22, [0, 1, 2, 3, 4, 5, 6, 7, 8, 9, 10, 11, 12, 13, 14, 15, 16, 17, 18, 19, 20, 21]), (23, [0, 1, 2, 3, 4, 5, 6, 7, 8, 9, 10, 11, 12, 13, 14, 15, 16, 17, 18, 19, 20, 21, 22]), (24, [0, 1, 2, 3, 4, 5, 6, 7, 8, 9, 10, 11, 12, 13, 14, 15, 16, 17, 18, 19, 20, 21, 22, 23])]⟩
  | 7 => ⟨[0, 2, 3, 4], [], [], .done, []⟩
  | 9 => ⟨[], [], [], .step 0 (.step 1 (.step 2 (.step 3 (.step 4 (.step 5 (.step 6 (.step 7 (.step 8 (.step 9 (.step 10 (.step 11 (.step 12 (.step 13 (.step 14 (.step 15 (.step 16 (.step 17 (.done)))))))))))))))))), [(2, [0, 1]), (3, [0, 1, 2]), (4, [0, 1, 2, 3]), (5, [0, 1, 2, 3, 4]), (6, [0, 1, 2, 3, 4, 5]), (7, [0, 1, 2, 3, 4, 5]), (8, [0, 1, 2, 3, 4, 5, 6, 7]), (9, [0, 1, 2, 3, 4, 5, 6, 7, 8]), (10, [0, 1, 2, 3, 4, 5, 6, 7, 8, 9]), (11, [0, 1, 2, 3, 4, 5]), (12, [0, 1, 2, 3, 4, 5]), (13, [0, 1, 2, 3, 4, 5, 11, 12]), (14, [0, 1, 2, 3, 4, 5, 11, 12, 13]), (15, [0, 1, 2, 3, 4, 5, 11, 12, 13, 14]), (16, [0, 1, 2, 3, 4, 5, 6, 7, 8, 9, 10, 11, 12, 13, 14, 15]), (17, [0, 1, 2, 3, 4, 5, 6, 7, 8, 9, 10, 11, 12, 13, 14, 15, 16])]⟩
  | _ => ⟨[], [], [], .done, []⟩
def esc_spec_TrailOk : Nat → Bool
  | _ => false
def vc_spec_TrailOk (w0 : World) (a0 : Value) (σ : Vw) (R : Value → Vw → Prop) : Prop :=
  pLoop (fun l0 K1 s2 => pLen (vget l0 0) (fun v3 => pBin Try.prog 3 BinOp.lss (vget l0 2) v3 (fun v4 => pIf v4 (pIndexAddr 2 (vget l0 0) (vget l0 2) (fun v5 => pLoad w0 2 v5 s2 (fun g6 => AC Try.prog w0 n_spec_l11MarkOk ([Value.agg (⟨[g6 0, g6 1]⟩)]) s2 (fun v7 s8 => pUn UnOp.not v7 (fun v9 => pIf v9 (K1 AX.ret [vget l0 0, Value.bool false, vget l0 2] s8) (pBin Try.prog 3 BinOp.gtr (vget l0 2) (Value.int IntKind.i64 0) (fun v10 => pIf v10 (pBin Try.prog 3 BinOp.sub (vget l0 2) (Value.int IntKind.i64 1) (fun v11 => pIndexAddr 2 (vget l0 0) v11 (fun v12 => pField 0 v12 (fun v13 => pLoad w0 1 v13 s8 (fun g14 => pIndexAddr 2 (vget l0 0) (vget l0 2) (fun v15 => pField 0 v15 (fun v16 => pLoad w0 1 v16 s8 (fun g17 => AC Try.prog w0 n_spec_l11Less [g14 0, g17 0] s8 (fun v18 s19 => pUn UnOp.not v18 (fun v20 => pIf v20 (K1 AX.ret [vget l0 0, Value.bool false, vget l0 2] s19) (pLoop (fun l21 K22 s23 => pBin Try.prog 3 BinOp.lss (vget l21 3) (vget l21 2) (fun v24 => pIf v24 (pIndexAddr 2 (vget l21 0) (vget l21 3) (fun v25 => pField 1 v25 (fun v26 => pLoad w0 1 v26 s23 (fun g27 => pIf (g27 0) (pIndexAddr 2 (vget l21 0) (vget l21 2) (fun v28 => pField 0 v28 (fun v29 => pLoad w0 1 v29 s23 (fun g30 => pIndexAddr 2 (vget l21 0) (vget l21 3) (fun v31 => pField 0 v31 (fun v32 => pLoad w0 1 v32 s23 (fun g33 => AC Try.prog w0 n_spec_l2Within [g30 0, g33 0] s23 (fun v34 s35 => pIf v34 (K22 AX.ret [vget l21 0, Value.bool false, vget l21 2, vget l21 3] s35) (pBin Try.prog 3 BinOp.add (vget l21 3) (Value.int IntKind.i64 1) (fun v36 => K22 AX.normal [vget l21 0, vget l21 1, vget l21 2, v36] s35)))))))))) (pBin Try.prog 3 BinOp.add (vget l21 3) (Value.int IntKind.i64 1) (fun v37 => K22 AX.normal [vget l21 0, vget l21 1, vget l21 2, v37] s23)))))) (K22 (AX.exit 2) [vget l21 0, vget l21 1, vget l21 2, vget l21 3] s23))) [vget l0 0, vget l0 1, vget l0 2, Value.int IntKind.i64 0] s19 (fun x38 l39 s40 => match x38 with | .normal => pBin Try.prog 3 BinOp.add (vget l39 2) (Value.int IntKind.i64 1) (fun v41 => K1 AX.normal [vget l39 0, vget l39 1, v41] s40) | .ret => K1 AX.ret [vget l39 0, vget l39 1, vget l39 2] s40 | .exit i42 => (match Nat.beq i42 2 with | true => pBin Try.prog 3 BinOp.add (vget l39 2) (Value.int IntKind.i64 1) (fun v43 => K1 AX.normal [vget l39 0, vget l39 1, v43] s40) | false => (match Nat.beq i42 1 with | true => pBin Try.prog 3 BinOp.add (vget l39 2) (Value.int IntKind.i64 1) (fun v44 => K1 AX.normal [vget l39 0, vget l39 1, v44] s40) | false => K1 (AX.exit i42) [vget l39 0, vget l39 1, vget l39 2] s40)))))))))))))) (pLoop (fun l45 K46 s47 => pBin Try.prog 3 BinOp.lss (vget l45 3) (vget l45 2) (fun v48 => pIf v48 (pIndexAddr 2 (vget l45 0) (vget l45 3) (fun v49 => pField 1 v49 (fun v50 => pLoad w0 1 v50 s47 (fun g51 => pIf (g51 0) (pIndexAddr 2 (vget l45 0) (vget l45 2) (fun v52 => pField 0 v52 (fun v53 => pLoad w0 1 v53 s47 (fun g54 => pIndexAddr 2 (vget l45 0) (vget l45 3) (fun v55 => pField 0 v55 (fun v56 => pLoad w0 1 v56 s47 (fun g57 => AC Try.prog w0 n_spec_l2Within [g54 0, g57 0] s47 (fun v58 s59 => pIf v58 (K46 AX.ret [vget l45 0, Value.bool false, vget l45 2, vget l45 3] s59) (pBin Try.prog 3 BinOp.add (vget l45 3) (Value.int IntKind.i64 1) (fun v60 => K46 AX.normal [vget l45 0, vget l45 1, vget l45 2, v60] s59)))))))))) (pBin Try.prog 3 BinOp.add (vget l45 3) (Value.int IntKind.i64 1) (fun v61 => K46 AX.normal [vget l45 0, vget l45 1, vget l45 2, v61] s47)))))) (K46 (AX.exit 2) [vget l45 0, vget l45 1, vget l45 2, vget l45 3] s47))) [vget l0 0, vget l0 1, vget l0 2, Value.int IntKind.i64 0] s8 (fun x62 l63 s64 => match x62 with | .normal => pBin Try.prog 3 BinOp.add (vget l63 2) (Value.int IntKind.i64 1) (fun v65 => K1 AX.normal [vget l63 0, vget l63 1, v65] s64) | .ret => K1 AX.ret [vget l63 0, vget l63 1, vget l63 2] s64 | .exit i66 => (match Nat.beq i66 2 with | true => pBin Try.prog 3 BinOp.add (vget l63 2) (Value.int IntKind.i64 1) (fun v67 => K1 AX.normal [vget l63 0, vget l63 1, v67] s64) | false => (match Nat.beq i66 1 with | true => pBin Try.prog 3 BinOp.add (vget l63 2) (Value.int IntKind.i64 1) (fun v68 => K1 AX.normal [vget l63 0, vget l63 1, v68] s64) | false => K1 (AX.exit i66) [vget l63 0, vget l63 1, vget l63 2] s64))))))))))) (K1 (AX.exit 0) [vget l0 0, vget l0 1, vget l0 2] s2)))) [a0, Value.bool false, Value.int IntKind.i64 0] σ (fun x69 l70 s71 => match x69 with | .normal => pLen (vget l70 0) (fun v72 => pBin Try.prog 3 BinOp.leq v72 (Value.int IntKind.i64 6) (fun v73 => R v73 s71)) | .ret => R (vget l70 1) s71 | .exit i74 => (match Nat.beq i74 0 with | true => pLen (vget l70 0) (fun v75 => pBin Try.prog 3 BinOp.leq v75 (Value.int IntKind.i64 6) (fun v76 => R v76 s71)) | false => False))
theorem vc_spec_TrailOk_eq (w0 : World) (a0 : Value) (σ : Vw) (R : Value → Vw → Prop) : vc_spec_TrailOk w0 a0 σ R = den Try.prog w0 kp_spec_TrailOk esc_spec_TrailOk (Try.f51.body.getD .skip) (entry Try.f51.ntmps [a0]) σ (retK Try.prog Try.f51.results.toList R) := by kernel_rfl
theorem ac_spec_TrailOk {w0 : World} {a0 : Value} {σ : Vw} {R : Value → Vw → Prop} (h : vc_spec_TrailOk w0 a0 σ R) : AC Try.prog w0 n_spec_TrailOk [a0] σ R := by
  refine ac_rule (fn := Try.f51) (c := Try.f51.body.getD .skip) kp_spec_TrailOk esc_spec_TrailOk Try.func51 (by kernel_rfl) (by kernel_rfl) ?_
  rw [← vc_spec_TrailOk_eq]
  exact h

/-- laws.toStringS -/
def kp_laws_toStringS : Nat → Keep
  | 3 => ⟨[0, 3, 4], [], [], .done, []⟩
  | _ => ⟨[], [], [], .done, []⟩
def esc_laws_toStringS : Nat → Bool
  | _ => false
def vc_laws_toStringS (w0 : World) (a0 : Value) (σ : Vw) (R : Value → Vw → Prop) : Prop :=
  pLen a0 (fun v0 => pMake w0 9 1 16 ([Value.string ({ data := #[] })]) v0 v0 σ (fun v1 s2 => pLoop (fun l3 K4 s5 => pLen (vget l3 0) (fun v6 => pBin Try.prog 3 BinOp.lss (vget l3 2) v6 (fun v7 => pIf v7 (pIndexAddr 1 (vget l3 0) (vget l3 2) (fun v8 => pLoad w0 1 v8 s5 (fun g9 => pIndexAddr 1 (vget l3 1) (vget l3 2) (fun v10 => pVal false 1 (g9 0) (pStore v10 [g9 0] s5 (fun s11 => pBin Try.prog 3 BinOp.add (vget l3 2) (Value.int IntKind.i64 1) (fun v12 => K4 AX.normal [vget l3 0, vget l3 1, v12] s11))))))) (K4 (AX.exit 0) [vget l3 0, vget l3 1, vget l3 2] s5)))) [a0, v1, Value.int IntKind.i64 0] s2 (fun x13 l14 s15 => match x13 with | .normal => R (vget l14 1) s15 | .ret => False | .exit i16 => (match Nat.beq i16 0 with | true => R (vget l14 1) s15 | false => False))))
theorem vc_laws_toStringS_eq (w0 : World) (a0 : Value) (σ : Vw) (R : Value → Vw → Prop) : vc_laws_toStringS w0 a0 σ R = den Try.prog w0 kp_laws_toStringS esc_laws_toStringS (Try.f53.body.getD .skip) (entry Try.f53.ntmps [a0]) σ (retK Try.prog Try.f53.results.toList R) := by kernel_rfl
theorem ac_laws_toStringS {w0 : World} {a0 : Value} {σ : Vw} {R : Value → Vw → Prop} (h : vc_laws_toStringS w0 a0 σ R) : AC Try.prog w0 n_laws_toStringS [a0] σ R := by
  refine ac_rule (fn := Try.f53) (c := Try.f53.body.getD .skip) kp_laws_toStringS esc_laws_toStringS Try.func53 (by kernel_rfl) (by kernel_rfl) ?_
  rw [← vc_laws_toStringS_eq]
  exact h

/-- laws.toTreeS -/
def kp_laws_toTreeS : Nat → Keep
  | 3 => ⟨[0, 3, 4], [], [], .done, []⟩
  | _ => ⟨[], [], [], .done, []⟩
def esc_laws_toTreeS : Nat → Bool
  | _ => false
def vc_laws_toTreeS (w0 : World) (a0 : Value) (σ : Vw) (R : Value → Vw → Prop) : Prop :=
  pLen a0 (fun v0 => pMake w0 26 5 80 ([Value.bool false, Value.int IntKind.i64 0, Value.string ({ data := #[] }), Value.slice Option.none 0 0, Value.slice Option.none 0 0]) v0 v0 σ (fun v1 s2 => pLoop (fun l3 K4 s5 => pLen (vget l3 0) (fun v6 => pBin Try.prog 3 BinOp.lss (vget l3 2) v6 (fun v7 => pIf v7 (pIndexAddr 5 (vget l3 0) (vget l3 2) (fun v8 => pLoad w0 5 v8 s5 (fun g9 => AC Try.prog w0 n_laws_toTree ([Value.agg (⟨[g9 0, g9 1, g9 2, g9 3, g9 4]⟩)]) s5 (fun v10 s11 => pIndexAddr 5 (vget l3 1) (vget l3 2) (fun v12 => pVal true 5 v10 (pStore v12 [cellOf v10 0, cellOf v10 1, cellOf v10 2, cellOf v10 3, cellOf v10 4] s11 (fun s13 => pBin Try.prog 3 BinOp.add (vget l3 2) (Value.int IntKind.i64 1) (fun v14 => K4 AX.normal [vget l3 0, vget l3 1, v14] s13)))))))) (K4 (AX.exit 0) [vget l3 0, vget l3 1, vget l3 2] s5)))) [a0, v1, Value.int IntKind.i64 0] s2 (fun x15 l16 s17 => match x15 with | .normal => R (vget l16 1) s17 | .ret => False | .exit i18 => (match Nat.beq i18 0 with | true => R (vget l16 1) s17 | false => False))))
theorem vc_laws_toTreeS_eq (w0 : World) (a0 : Value) (σ : Vw) (R : Value → Vw → Prop) : vc_laws_toTreeS w0 a0 σ R = den Try.prog w0 kp_laws_toTreeS esc_laws_toTreeS (Try.f54.body.getD .skip) (entry Try.f54.ntmps [a0]) σ (retK Try.prog Try.f54.results.toList R) := by kernel_rfl
theorem ac_laws_toTreeS {w0 : World} {a0 : Value} {σ : Vw} {R : Value → Vw → Prop} (h : vc_laws_toTreeS w0 a0 σ R) : AC Try.prog w0 n_laws_toTreeS [a0] σ R := by
  refine ac_rule (fn := Try.f54) (c := Try.f54.body.getD .skip) kp_laws_toTreeS esc_laws_toTreeS Try.func54 (by kernel_rfl) (by kernel_rfl) ?_
  rw [← vc_laws_toTreeS_eq]
  exact h

/-- laws.toMark -/
def kp_laws_toMark : Nat → Keep
  | _ => ⟨[], [], [], .done, []⟩
def esc_laws_toMark : Nat → Bool
  | _ => false
def vc_laws_toMark (w0 : World) (a0 : Value) (σ : Vw) (R : Value → Vw → Prop) : Prop :=
  pVal true 2 a0 (AC Try.prog w0 n_laws_toStringS [cellOf a0 0] σ (fun v0 s1 => pVal false 1 v0 (pVal false 1 (cellOf a0 1) (pVal true 2 (Value.agg (⟨[v0, cellOf a0 1]⟩)) (R (Value.agg (⟨[v0, cellOf a0 1]⟩)) s1)))))
theorem vc_laws_toMark_eq (w0 : World) (a0 : Value) (σ : Vw) (R : Value → Vw → Prop) : vc_laws_toMark w0 a0 σ R = den Try.prog w0 kp_laws_toMark esc_laws_toMark (Try.f55.body.getD .skip) (entry Try.f55.ntmps [a0]) σ (retK Try.prog Try.f55.results.toList R) := by kernel_rfl
theorem ac_laws_toMark {w0 : World} {a0 : Value} {σ : Vw} {R : Value → Vw → Prop} (h : vc_laws_toMark w0 a0 σ R) : AC Try.prog w0 n_laws_toMark [a0] σ R := by
  refine ac_rule (fn := Try.f55) (c := Try.f55.body.getD .skip) kp_laws_toMark esc_laws_toMark Try.func55 (by kernel_rfl) (by kernel_rfl) ?_
  rw [← vc_laws_toMark_eq]
  exact h

/-- impl.TrailOk -/
def kp_impl_TrailOk : Nat → Keep
  | 2 => ⟨[0, 2, 5, 6, 7], [], [], .done, []⟩
  | 4 => ⟨[], [], [], .step 0 (.step 1 (.step 2 (.step 3 (.step 4 (.step 5 (.step 6 (.step 7 (.step 8 (.step 9 (.step 10 (.step 11 (.step 12 (.step 13 (.step 14 (.step 15 (.step 16 (.step 17 (.step 18 (.step 19 (.step 20 (.step 21 (.step 22 (.step 23 (.step 24 (.step 25 (.step 26 (.done))))))))))))))))))))))))))), [(1, [0]), (2, [0, 1]), (3, [0, 1, 2]), (4, [0, 1, 2, 3]), (5, [0, 1, 2, 3, 4]), (6, [0, 1, 2, 3, 4, 5]), (7, [0, 1, 2, 3, 4, 5, 6]), (8, [0, 1, 2, 3, 4, 5, 6]), (9, [0, 1, 2, 3, 4, 5, 6, 8]), (10, [0, 1, 2, 3, 4, 5, 6, 7, 8, 9]), (11, [0, 1, 2, 3, 4, 5, 6, 7, 8, 9, 10]), (12, [0, 1, 2, 3, 4, 5, 6, 7, 8, 9, 10, 11]), (13, [0, 1, 2, 3, 4, 5, 6]), (14, [0, 1, 2, 3, 4, 5, 6, 13]), (15, [0, 1, 2, 3, 4, 5, 6, 7, 8, 9, 10, 11, 12, 13, 14]), (16, [0, 1, 2, 3, 4, 5, 6, 7, 8, 9, 10, 11, 12, 13, 14, 15]), (17, [0, 1, 2, 3, 4, 5, 6, 7, 8, 9, 10, 11, 12, 13, 14, 15, 16]), (18, [0, 1, 2, 3, 4, 5, 6, 7, 8, 9, 10, 11, 12, 13, 14, 15, 16, 17]), (19, [0, 1, 2, 3, 4, 5, 6, 7, 8, 9, 10, 11, 12, 13, 14, 15, 16, 17, 18]), (20, [0, 1, 2, 3, 4, 5, 6, 7, 8, 9, 10, 11, 12, 13, 14, 15, 16, 17, 18, 19]), (21, [0, 1, 2, 3, 4, 5, 6, 7, 8, 9, 10, 11, 12, 13, 14, 15, 16, 17, 18, 19]), (22, [0, 1, 2, 3, 4, 5, 6, 7, 8, 9, 10, 11, 12, 13, 14, 15, 16, 17, 18, 19, 20, 21]), (23, [0, 1, 2, 3, 4, 5, 6, 7, 8, 9, 10, 11, 12, 13, 14, 15, 16, 17, 18, 19]), (24, [0, 1, 2, 3, 4, 5, 6, 7, 8, 9, 10, 11, 12, 13, 14, 15, 16, 17, 18, 19, 23]), (25, [0, 1, 2, 3, 4, 5, 6, 7, 8, 9, 10, 11, 12, 13, 14, 15, 16, 17, 18, 19, 20, 21, 22, 23, 24]), (26, [0, 1, 2, 3, 4, 5, 6, 7, 8, 9, 10, 11, 12, 13, 14, 15, 16, 17, 18, 19, 20, 21, 22, 23, 24, 25])]⟩
  | _ => ⟨[], [], [], .done, []⟩
def esc_impl_TrailOk : Nat → Bool
  | _ => false
def vc_impl_TrailOk (w0 : World) (a0 : Value) (σ : Vw) (R : Value → Vw → Prop) : Prop :=
  pLen a0 (fun v0 => pLoop (fun l1 K2 s3 => pBin Try.prog 3 BinOp.lss (vget l1 4) (vget l1 3) (fun v4 => pIf v4 (pIndexAddr 2 (vget l1 2) (vget l1 4) (fun v5 => pLoad w0 2 v5 s3 (fun g6 => pVal true 2 (Value.agg (⟨[g6 0, g6 1]⟩)) (AC Try.prog w0 n_impl_markOk ([Value.agg (⟨[g6 0, g6 1]⟩)]) s3 (fun v7 s8 => pUn UnOp.not v7 (fun v9 => pIf v9 (K2 AX.ret [vget l1 0, Value.bool false, vget l1 2, vget l1 3, vget l1 4] s8) (pBin Try.prog 3 BinOp.gtr (vget l1 4) (Value.int IntKind.i64 0) (fun v10 => pIf v10 (pBin Try.prog 3 BinOp.sub (vget l1 4) (Value.int IntKind.i64 1) (fun v11 => pIndexAddr 2 (vget l1 0) v11 (fun v12 => pField 0 v12 (fun v13 => pLoad w0 1 v13 s8 (fun g14 => AC Try.prog w0 n_slices_Compare_string_string [g14 0, g6 0] s8 (fun v15 s16 => pBin Try.prog 3 BinOp.geq v15 (Value.int IntKind.i64 0) (fun v17 => pIf v17 (K2 AX.ret [vget l1 0, Value.bool false, vget l1 2, vget l1 3, vget l1 4] s16) (pSlice 2 (vget l1 0) Option.none (Option.some (vget l1 4)) (fun v18 => AC Try.prog w0 n_impl_under [v18, g6 0] s16 (fun v19 s20 => pIf v19 (K2 AX.ret [vget l1 0, Value.bool false, vget l1 2, vget l1 3, vget l1 4] s20) (pBin Try.prog 3 BinOp.add (vget l1 4) (Value.int IntKind.i64 1) (fun v21 => K2 AX.normal [vget l1 0, vget l1 1, vget l1 2, vget l1 3, v21] s20)))))))))))) (pSlice 2 (vget l1 0) Option.none (Option.some (vget l1 4)) (fun v22 => AC Try.prog w0 n_impl_under [v22, g6 0] s8 (fun v23 s24 => pIf v23 (K2 AX.ret [vget l1 0, Value.bool false, vget l1 2, vget l1 3, vget l1 4] s24) (pBin Try.prog 3 BinOp.add (vget l1 4) (Value.int IntKind.i64 1) (fun v25 => K2 AX.normal [vget l1 0, vget l1 1, vget l1 2, vget l1 3, v25] s24))))))))))))) (K2 (AX.exit 0) [vget l1 0, vget l1 1, vget l1 2, vget l1 3, vget l1 4] s3))) [a0, Value.bool false, a0, v0, Value.int IntKind.i64 0] σ (fun x26 l27 s28 => match x26 with | .normal => pLen (vget l27 0) (fun v29 => pBin Try.prog 3 BinOp.leq v29 (Value.int IntKind.i64 6) (fun v30 => R v30 s28)) | .ret => R (vget l27 1) s28 | .exit i31 => (match Nat.beq i31 0 with | true => pLen (vget l27 0) (fun v32 => pBin Try.prog 3 BinOp.leq v32 (Value.int IntKind.i64 6) (fun v33 => R v33 s28)) | false => False)))
theorem vc_impl_TrailOk_eq (w0 : World) (a0 : Value) (σ : Vw) (R : Value → Vw → Prop) : vc_impl_TrailOk w0 a0 σ R = den Try.prog w0 kp_impl_TrailOk esc_impl_TrailOk (Try.f56.body.getD .skip) (entry Try.f56.ntmps [a0]) σ (retK Try.prog Try.f56.results.toList R) := by kernel_rfl
theorem ac_impl_TrailOk {w0 : World} {a0 : Value} {σ : Vw} {R : Value → Vw → Prop} (h : vc_impl_TrailOk w0 a0 σ R) : AC Try.prog w0 n_impl_TrailOk [a0] σ R := by
  refine ac_rule (fn := Try.f56) (c := Try.f56.body.getD .skip) kp_impl_TrailOk esc_impl_TrailOk Try.func56 (by kernel_rfl) (by kernel_rfl) ?_
  rw [← vc_impl_TrailOk_eq]
  exact h

/-- laws.eqStringS -/
def kp_laws_eqStringS : Nat → Keep
  | 4 => ⟨[0, 1, 4, 5], [], [], .done, []⟩
  | 6 => ⟨[], [], [], .step 0 (.step 1 (.step 2 (.step 3 (.step 4 (.step 5 (.step 6 (.step 7 (.step 8 (.done))))))))), [(2, [0, 1]), (3, [0, 1, 2]), (6, [4, 5]), (7, [4, 5, 6]), (8, [0, 1, 2, 3, 4, 5, 6, 7])]⟩
  | _ => ⟨[], [], [], .done, []⟩
def esc_laws_eqStringS : Nat → Bool
  | _ => false
def vc_laws_eqStringS (w0 : World) (a0 a1 : Value) (σ : Vw) (R : Value → Vw → Prop) : Prop :=
  pLen a0 (fun v0 => pLen a1 (fun v1 => pBin Try.prog 3 BinOp.neq v0 v1 (fun v2 => pIf v2 (R (Value.bool false) σ) (pLoop (fun l3 K4 s5 => pLen (vget l3 0) (fun v6 => pBin Try.prog 3 BinOp.lss (vget l3 3) v6 (fun v7 => pIf v7 (pIndexAddr 1 (vget l3 0) (vget l3 3) (fun v8 => pLoad w0 1 v8 s5 (fun g9 => pIndexAddr 1 (vget l3 1) (vget l3 3) (fun v10 => pLoad w0 1 v10 s5 (fun g11 => pBin Try.prog 9 BinOp.neq (g9 0) (g11 0) (fun v12 => pIf v12 (K4 AX.ret [vget l3 0, vget l3 1, Value.bool false, vget l3 3] s5) (pBin Try.prog 3 BinOp.add (vget l3 3) (Value.int IntKind.i64 1) (fun v13 => K4 AX.normal [vget l3 0, vget l3 1, vget l3 2, v13] s5)))))))) (K4 (AX.exit 0) [vget l3 0, vget l3 1, vget l3 2, vget l3 3] s5)))) [a0, a1, Value.bool false, Value.int IntKind.i64 0] σ (fun x14 l15 s16 => match x14 with | .normal => R (Value.bool true) s16 | .ret => R (vget l15 2) s16 | .exit i17 => (match Nat.beq i17 0 with | true => R (Value.bool true) s16 | false => False))))))
theorem vc_laws_eqStringS_eq (w0 : World) (a0 a1 : Value) (σ : Vw) (R : Value → Vw → Prop) : vc_laws_eqStringS w0 a0 a1 σ R = den Try.prog w0 kp_laws_eqStringS esc_laws_eqStringS (Try.f58.body.getD .skip) (entry Try.f58.ntmps [a0, a1]) σ (retK Try.prog Try.f58.results.toList R) := by kernel_rfl
theorem ac_laws_eqStringS {w0 : World} {a0 a1 : Value} {σ : Vw} {R : Value → Vw → Prop} (h : vc_laws_eqStringS w0 a0 a1 σ R) : AC Try.prog w0 n_laws_eqStringS [a0, a1] σ R := by
  refine ac_rule (fn := Try.f58) (c := Try.f58.body.getD .skip) kp_laws_eqStringS esc_laws_eqStringS Try.func58 (by kernel_rfl) (by kernel_rfl) ?_
  rw [← vc_laws_eqStringS_eq]
  exact h

/-- laws.eqTreeS -/
def kp_laws_eqTreeS : Nat → Keep
  | 4 => ⟨[0, 1, 4, 5], [], [], .done, []⟩
  | 6 => ⟨[], [], [], .step 0 (.step 1 (.step 2 (.step 3 (.step 4 (.step 5 (.step 6 (.step 7 (.step 8 (.step 9 (.done)))))))))), [(2, [0, 1]), (3, [0, 1, 2]), (6, [4, 5]), (7, [4, 5, 6]), (8, [0, 1, 2, 3, 4, 5, 6, 7]), (9, [0, 1, 2, 3, 4, 5, 6, 7, 8])]⟩
  | _ => ⟨[], [], [], .done, []⟩
def esc_laws_eqTreeS : Nat → Bool
  | _ => false
def vc_laws_eqTreeS (w0 : World) (a0 a1 : Value) (σ : Vw) (R : Value → Vw → Prop) : Prop :=
  pLen a0 (fun v0 => pLen a1 (fun v1 => pBin Try.prog 3 BinOp.neq v0 v1 (fun v2 => pIf v2 (R (Value.bool false) σ) (pLoop (fun l3 K4 s5 => pLen (vget l3 0) (fun v6 => pBin Try.prog 3 BinOp.lss (vget l3 3) v6 (fun v7 => pIf v7 (pIndexAddr 5 (vget l3 0) (vget l3 3) (fun v8 => pLoad w0 5 v8 s5 (fun g9 => pIndexAddr 5 (vget l3 1) (vget l3 3) (fun v10 => pLoad w0 5 v10 s5 (fun g11 => AC Try.prog w0 n_laws_eqTree ([Value.agg (⟨[g9 0, g9 1, g9 2, g9 3, g9 4]⟩), Value.agg (⟨[g11 0, g11 1, g11 2, g11 3, g11 4]⟩)]) s5 (fun v12 s13 => pUn UnOp.not v12 (fun v14 => pIf v14 (K4 AX.ret [vget l3 0, vget l3 1, Value.bool false, vget l3 3] s13) (pBin Try.prog 3 BinOp.add (vget l3 3) (Value.int IntKind.i64 1) (fun v15 => K4 AX.normal [vget l3 0, vget l3 1, vget l3 2, v15] s13))))))))) (K4 (AX.exit 0) [vget l3 0, vget l3 1, vget l3 2, vget l3 3] s5)))) [a0, a1, Value.bool false, Value.int IntKind.i64 0] σ (fun x16 l17 s18 => match x16 with | .normal => R (Value.bool true) s18 | .ret => R (vget l17 2) s18 | .exit i19 => (match Nat.beq i19 0 with | true => R (Value.bool true) s18 | false => False))))))
theorem vc_laws_eqTreeS_eq (w0 : World) (a0 a1 : Value) (σ : Vw) (R : Value → Vw → Prop) : vc_laws_eqTreeS w0 a0 a1 σ R = den Try.prog w0 kp_laws_eqTreeS esc_laws_eqTreeS (Try.f59.body.getD .skip) (entry Try.f59.ntmps [a0, a1]) σ (retK Try.prog Try.f59.results.toList R) := by kernel_rfl
theorem ac_laws_eqTreeS {w0 : World} {a0 a1 : Value} {σ : Vw} {R : Value → Vw → Prop} (h : vc_laws_eqTreeS w0 a0 a1 σ R) : AC Try.prog w0 n_laws_eqTreeS [a0, a1] σ R := by
  refine ac_rule (fn := Try.f59) (c := Try.f59.body.getD .skip) kp_laws_eqTreeS esc_laws_eqTreeS Try.func59 (by kernel_rfl) (by kernel_rfl) ?_
  rw [← vc_laws_eqTreeS_eq]
  exact h

/-- laws.eqMark -/
def kp_laws_eqMark : Nat → Keep
  | _ => ⟨[], [], [], .done, []⟩
def esc_laws_eqMark : Nat → Bool
  | _ => false
def vc_laws_eqMark (w0 : World) (a0 a1 : Value) (σ : Vw) (R : Value → Vw → Prop) : Prop :=
  pVal true 2 a0 (pVal true 2 a1 (AC Try.prog w0 n_laws_eqStringS [cellOf a0 0, cellOf a1 0] σ (fun v0 s1 => pUn UnOp.not v0 (fun v2 => pIf v2 (R (Value.bool false) s1) (pBin Try.prog 4 BinOp.neq (cellOf a0 1) (cellOf a1 1) (fun v3 => pIf v3 (R (Value.bool false) s1) (R (Value.bool true) s1)))))))
theorem vc_laws_eqMark_eq (w0 : World) (a0 a1 : Value) (σ : Vw) (R : Value → Vw → Prop) : vc_laws_eqMark w0 a0 a1 σ R = den Try.prog w0 kp_laws_eqMark esc_laws_eqMark (Try.f60.body.getD .skip) (entry Try.f60.ntmps [a0, a1]) σ (retK Try.prog Try.f60.results.toList R) := by kernel_rfl
theorem ac_laws_eqMark {w0 : World} {a0 a1 : Value} {σ : Vw} {R : Value → Vw → Prop} (h : vc_laws_eqMark w0 a0 a1 σ R) : AC Try.prog w0 n_laws_eqMark [a0, a1] σ R := by
  refine ac_rule (fn := Try.f60) (c := Try.f60.body.getD .skip) kp_laws_eqMark esc_laws_eqMark Try.func60 (by kernel_rfl) (by kernel_rfl) ?_
  rw [← vc_laws_eqMark_eq]
  exact h

end Go.Proofs.Ytkbhjejalkbogaa

/- What each function owes, reckoned out, part 2. MADE BY PROGRAM (emit.py). -/
set_option linter.unusedVariables false
namespace Go.Proofs.Ytkbhjejalkbogaa
open Go Go.Av

/-- spec.l12Covers -/
def kp_spec_l12Covers : Nat → Keep
  | 6 => ⟨[0, 5, 12, 14, 15], [(7, 5), (9, 5)], [7, 9], .done, []⟩
  | 8 => ⟨[], [], [], .step 0 (.step 1 (.step 2 (.step 3 (.step 4 (.step 9 (.step 5 (.step 6 (.step 7 (.step 8 (.step 10 (.step 11 (.done)))))))))))), [(3, [1, 2]), (4, [1, 2, 3]), (5, [0, 1, 2, 3, 4]), (6, [0, 1, 2, 3, 4, 5]), (7, [0, 1, 2, 3, 4, 5, 6]), (8, [0, 1, 2, 3, 4, 5, 6]), (10, [0, 1, 2, 3, 4, 5, 6, 7, 9]), (11, [0, 1, 2, 3, 4, 5, 6, 7, 8, 9, 10])]⟩
  | 9 => ⟨[], [], [], .step 0 (.step 1 (.step 2 (.step 3 (.step 4 (.step 9 (.step 5 (.step 6 (.step 7 (.step 8 (.step 10 (.step 11 (.done)))))))))))), [(3, [1, 2]), (4, [1, 2, 3]), (5, [0, 1, 2, 3, 4]), (6, [0, 1, 2, 3, 4, 5]), (7, [0, 1, 2, 3, 4, 5, 6]), (8, [0, 1, 2, 3, 4, 5, 6]), (10, [0, 1, 2, 3, 4, 5, 6, 7, 9]), (11, [0, 1, 2, 3, 4, 5, 6, 7, 8, 9, 10])]⟩
  | 10 => ⟨[], [], [], .step 0 (.step 1 (.step 2 (.step 3 (.step 4 (.step 6 (.step 7 (.step 8 (.step 9 (.step 10 (.step 5 (.step 11 (.step 12 (.done))))))))))))), [(3, [1, 2]), (4, [1, 2, 3]), (5, [0, 1, 2, 3, 4]), (11, [0, 1, 2, 3, 4, 5, 6, 7, 8, 9, 10]), (12, [0, 1, 2, 3, 4, 5, 6, 7, 8, 9, 10, 11])]⟩
  | _ => ⟨[], [], [], .done, []⟩
def esc_spec_l12Covers : Nat → Bool
  | _ => false
def vc_spec_l12Covers (w0 : World) (a0 a1 a2 a3 a4 a5 : Value) (σ : Vw) (R : Value → Vw → Prop) : Prop :=
  pVal true 5 a1 (pVal true 5 a3 (pBin Try.prog 4 BinOp.neq a2 a4 (fun v0 => pIf v0 (AC Try.prog w0 n_spec_l11Marked [a5, a0] σ (fun v1 s2 => pUn UnOp.not v1 (fun v3 => pIf v3 (R (Value.bool false) s2) (AC Try.prog w0 n_spec_l12Names ([Value.agg (⟨[cellOf a1 0, cellOf a1 1, cellOf a1 2, cellOf a1 3, cellOf a1 4]⟩), Value.agg (⟨[cellOf a3 0, cellOf a3 1, cellOf a3 2, cellOf a3 3, cellOf a3 4]⟩)]) s2 (fun v4 s5 => pLoop (fun l6 K7 s8 => pLen (vget l6 3) (fun v9 => pBin Try.prog 3 BinOp.lss (vget l6 4) v9 (fun v10 => pIf v10 (pIndexAddr 1 (vget l6 3) (vget l6 4) (fun v11 => pLoad w0 1 v11 s8 (fun g12 => AC Try.prog w0 n_spec_l12Kid ([Value.agg (⟨[vget l6 5, vget l6 6, vget l6 7, vget l6 8, vget l6 9]⟩), g12 0]) s8 (fun v13 s14 => pExtract v13 0 (fun v15 => pExtract v13 1 (fun v16 => pVal true 5 v15 (pIndexAddr 1 (vget l6 3) (vget l6 4) (fun v17 => pLoad w0 1 v17 s14 (fun g18 => AC Try.prog w0 n_spec_l12Kid ([Value.agg (⟨[vget l6 10, vget l6 11, vget l6 12, vget l6 13, vget l6 14]⟩), g18 0]) s14 (fun v19 s20 => pExtract v19 0 (fun v21 => pExtract v19 1 (fun v22 => pVal true 5 v21 (pIndexAddr 1 (vget l6 3) (vget l6 4) (fun v23 => pLoad w0 1 v23 s20 (fun g24 => AC Try.prog w0 n_spec_l3Path [vget l6 0, g24 0] s20 (fun v25 s26 => AC Try.prog w0 n_spec_l12Covers ([v25, Value.agg (⟨[cellOf v15 0, cellOf v15 1, cellOf v15 2, cellOf v15 3, cellOf v15 4]⟩), v16, Value.agg (⟨[cellOf v21 0, cellOf v21 1, cellOf v21 2, cellOf v21 3, cellOf v21 4]⟩), v22, vget l6 1]) s26 (fun v27 s28 => pUn UnOp.not v27 (fun v29 => pIf v29 (K7 AX.ret [vget l6 0, vget l6 1, Value.bool false, vget l6 3, vget l6 4, vget l6 5, vget l6 6, vget l6 7, vget l6 8, vget l6 9, vget l6 10, vget l6 11, vget l6 12, vget l6 13, vget l6 14] s28) (pBin Try.prog 3 BinOp.add (vget l6 4) (Value.int IntKind.i64 1) (fun v30 => K7 AX.normal [vget l6 0, vget l6 1, vget l6 2, vget l6 3, v30, vget l6 5, vget l6 6, vget l6 7, vget l6 8, vget l6 9, vget l6 10, vget l6 11, vget l6 12, vget l6 13, vget l6 14] s28)))))))))))))))))))) (K7 (AX.exit 0) [vget l6 0, vget l6 1, vget l6 2, vget l6 3, vget l6 4, vget l6 5, vget l6 6, vget l6 7, vget l6 8, vget l6 9, vget l6 10, vget l6 11, vget l6 12, vget l6 13, vget l6 14] s8)))) [a0, a5, Value.bool false, v4, Value.int IntKind.i64 0, cellOf a1 0, cellOf a1 1, cellOf a1 2, cellOf a1 3, cellOf a1 4, cellOf a3 0, cellOf a3 1, cellOf a3 2, cellOf a3 3, cellOf a3 4] s5 (fun x31 l32 s33 => match x31 with | .normal => R (Value.bool true) s33 | .ret => R (vget l32 2) s33 | .exit i34 => (match Nat.beq i34 0 with | true => R (Value.bool true) s33 | false => False))))))) (pBin Try.prog 4 BinOp.neq (cellOf a1 0) (cellOf a3 0) (fun v35 => pIf v35 (AC Try.prog w0 n_spec_l11Marked [a5, a0] σ (fun v36 s37 => pUn UnOp.not v36 (fun v38 => pIf v38 (R (Value.bool false) s37) (AC Try.prog w0 n_spec_l12Names ([Value.agg (⟨[cellOf a1 0, cellOf a1 1, cellOf a1 2, cellOf a1 3, cellOf a1 4]⟩), Value.agg (⟨[cellOf a3 0, cellOf a3 1, cellOf a3 2, cellOf a3 3, cellOf a3 4]⟩)]) s37 (fun v39 s40 => pLoop (fun l41 K42 s43 => pLen (vget l41 3) (fun v44 => pBin Try.prog 3 BinOp.lss (vget l41 4) v44 (fun v45 => pIf v45 (pIndexAddr 1 (vget l41 3) (vget l41 4) (fun v46 => pLoad w0 1 v46 s43 (fun g47 => AC Try.prog w0 n_spec_l12Kid ([Value.agg (⟨[vget l41 5, vget l41 6, vget l41 7, vget l41 8, vget l41 9]⟩), g47 0]) s43 (fun v48 s49 => pExtract v48 0 (fun v50 => pExtract v48 1 (fun v51 => pVal true 5 v50 (pIndexAddr 1 (vget l41 3) (vget l41 4) (fun v52 => pLoad w0 1 v52 s49 (fun g53 => AC Try.prog w0 n_spec_l12Kid ([Value.agg (⟨[vget l41 10, vget l41 11, vget l41 12, vget l41 13, vget l41 14]⟩), g53 0]) s49 (fun v54 s55 => pExtract v54 0 (fun v56 => pExtract v54 1 (fun v57 => pVal true 5 v56 (pIndexAddr 1 (vget l41 3) (vget l41 4) (fun v58 => pLoad w0 1 v58 s55 (fun g59 => AC Try.prog w0 n_spec_l3Path [vget l41 0, g59 0] s55 (fun v60 s61 => AC Try.prog w0 n_spec_l12Covers ([v60, Value.agg (⟨[cellOf v50 0, cellOf v50 1, cellOf v50 2, cellOf v50 3, cellOf v50 4]⟩), v51, Value.agg (⟨[cellOf v56 0, cellOf v56 1, cellOf v56 2, cellOf v56 3, cellOf v56 4]⟩), v57, vget l41 1]) s61 (fun v62 s63 => pUn UnOp.not v62 (fun v64 => pIf v64 (K42 AX.ret [vget l41 0, vget l41 1, Value.bool false, vget l41 3, vget l41 4, vget l41 5, vget l41 6, vget l41 7, vget l41 8, vget l41 9, vget l41 10, vget l41 11, vget l41 12, vget l41 13, vget l41 14] s63) (pBin Try.prog 3 BinOp.add (vget l41 4) (Value.int IntKind.i64 1) (fun v65 => K42 AX.normal [vget l41 0, vget l41 1, vget l41 2, vget l41 3, v65, vget l41 5, vget l41 6, vget l41 7, vget l41 8, vget l41 9, vget l41 10, vget l41 11, vget l41 12, vget l41 13, vget l41 14] s63)))))))))))))))))))) (K42 (AX.exit 0) [vget l41 0, vget l41 1, vget l41 2, vget l41 3, vget l41 4, vget l41 5, vget l41 6, vget l41 7, vget l41 8, vget l41 9, vget l41 10, vget l41 11, vget l41 12, vget l41 13, vget l41 14] s43)))) [a0, a5, Value.bool false, v39, Value.int IntKind.i64 0, cellOf a1 0, cellOf a1 1, cellOf a1 2, cellOf a1 3, cellOf a1 4, cellOf a3 0, cellOf a3 1, cellOf a3 2, cellOf a3 3, cellOf a3 4] s40 (fun x66 l67 s68 => match x66 with | .normal => R (Value.bool true) s68 | .ret => R (vget l67 2) s68 | .exit i69 => (match Nat.beq i69 0 with | true => R (Value.bool true) s68 | false => False))))))) (pBin Try.prog 3 BinOp.neq (cellOf a1 1) (cellOf a3 1) (fun v70 => pIf v70 (AC Try.prog w0 n_spec_l11Marked [a5, a0] σ (fun v71 s72 => pUn UnOp.not v71 (fun v73 => pIf v73 (R (Value.bool false) s72) (AC Try.prog w0 n_spec_l12Names ([Value.agg (⟨[cellOf a1 0, cellOf a1 1, cellOf a1 2, cellOf a1 3, cellOf a1 4]⟩), Value.agg (⟨[cellOf a3 0, cellOf a3 1, cellOf a3 2, cellOf a3 3, cellOf a3 4]⟩)]) s72 (fun v74 s75 => pLoop (fun l76 K77 s78 => pLen (vget l76 3) (fun v79 => pBin Try.prog 3 BinOp.lss (vget l76 4) v79 (fun v80 => pIf v80 (pIndexAddr 1 (vget l76 3) (vget l76 4) (fun v81 => pLoad w0 1 v81 s78 (fun g82 => AC Try.prog w0 n_spec_l12Kid ([Value.agg (⟨[vget l76 5, vget l76 6, vget l76 7, vget l76 8, vget l76 9]⟩), g82 0]) s78 (fun v83 s84 => pExtract v83 0 (fun v85 => pExtract v83 1 (fun v86 => pVal true 5 v85 (pIndexAddr 1 (vget l76 3) (vget l76 4) (fun v87 => pLoad w0 1 v87 s84 (fun g88 => AC Try.prog w0 n_spec_l12Kid ([Value.agg (⟨[vget l76 10, vget l76 11, vget l76 12, vget l76 13, vget l76 14]⟩), g88 0]) s84 (fun v89 s90 => pExtract v89 0 (fun v91 => pExtract v89 1 (fun v92 => pVal true 5 v91 (pIndexAddr 1 (vget l76 3) (vget l76 4) (fun v93 => pLoad w0 1 v93 s90 (fun g94 => AC Try.prog w0 n_spec_l3Path [vget l76 0, g94 0] s90 (fun v95 s96 => AC Try.prog w0 n_spec_l12Covers ([v95, Value.agg (⟨[cellOf v85 0, cellOf v85 1, cellOf v85 2, cellOf v85 3, cellOf v85 4]⟩), v86, Value.agg (⟨[cellOf v91 0, cellOf v91 1, cellOf v91 2, cellOf v91 3, cellOf v91 4]⟩), v92, vget l76 1]) s96 (fun v97 s98 => pUn UnOp.not v97 (fun v99 => pIf v99 (K77 AX.ret [vget l76 0, vget l76 1, Value.bool false, vget l76 3, vget l76 4, vget l76 5, vget l76 6, vget l76 7, vget l76 8, vget l76 9, vget l76 10, vget l76 11, vget l76 12, vget l76 13, vget l76 14] s98) (pBin Try.prog 3 BinOp.add (vget l76 4) (Value.int IntKind.i64 1) (fun v100 => K77 AX.normal [vget l76 0, vget l76 1, vget l76 2, vget l76 3, v100, vget l76 5, vget l76 6, vget l76 7, vget l76 8, vget l76 9, vget l76 10, vget l76 11, vget l76 12, vget l76 13, vget l76 14] s98)))))))))))))))))))) (K77 (AX.exit 0) [vget l76 0, vget l76 1, vget l76 2, vget l76 3, vget l76 4, vget l76 5, vget l76 6, vget l76 7, vget l76 8, vget l76 9, vget l76 10, vget l76 11, vget l76 12, vget l76 13, vget l76 14] s78)))) [a0, a5, Value.bool false, v74, Value.int IntKind.i64 0, cellOf a1 0, cellOf a1 1, cellOf a1 2, cellOf a1 3, cellOf a1 4, cellOf a3 0, cellOf a3 1, cellOf a3 2, cellOf a3 3, cellOf a3 4] s75 (fun x101 l102 s103 => match x101 with | .normal => R (Value.bool true) s103 | .ret => R (vget l102 2) s103 | .exit i104 => (match Nat.beq i104 0 with | true => R (Value.bool true) s103 | false => False))))))) (pBin Try.prog 9 BinOp.neq (cellOf a1 2) (cellOf a3 2) (fun v105 => pIf v105 (AC Try.prog w0 n_spec_l11Marked [a5, a0] σ (fun v106 s107 => pUn UnOp.not v106 (fun v108 => pIf v108 (R (Value.bool false) s107) (AC Try.prog w0 n_spec_l12Names ([Value.agg (⟨[cellOf a1 0, cellOf a1 1, cellOf a1 2, cellOf a1 3, cellOf a1 4]⟩), Value.agg (⟨[cellOf a3 0, cellOf a3 1, cellOf a3 2, cellOf a3 3, cellOf a3 4]⟩)]) s107 (fun v109 s110 => pLoop (fun l111 K112 s113 => pLen (vget l111 3) (fun v114 => pBin Try.prog 3 BinOp.lss (vget l111 4) v114 (fun v115 => pIf v115 (pIndexAddr 1 (vget l111 3) (vget l111 4) (fun v116 => pLoad w0 1 v116 s113 (fun g117 => AC Try.prog w0 n_spec_l12Kid ([Value.agg (⟨[vget l111 5, vget l111 6, vget l111 7, vget l111 8, vget l111 9]⟩), g117 0]) s113 (fun v118 s119 => pExtract v118 0 (fun v120 => pExtract v118 1 (fun v121 => pVal true 5 v120 (pIndexAddr 1 (vget l111 3) (vget l111 4) (fun v122 => pLoad w0 1 v122 s119 (fun g123 => AC Try.prog w0 n_spec_l12Kid ([Value.agg (⟨[vget l111 10, vget l111 11, vget l111 12, vget l111 13, vget l111 14]⟩), g123 0]) s119 (fun v124 s125 => pExtract v124 0 (fun v126 => pExtract v124 1 (fun v127 => pVal true 5 v126 (pIndexAddr 1 (vget l111 3) (vget l111 4) (fun v128 => pLoad w0 1 v128 s125 (fun g129 => AC Try.prog w0 n_spec_l3Path [vget l111 0, g129 0] s125 (fun v130 s131 => AC Try.prog w0 n_spec_l12Covers ([v130, Value.agg (⟨[cellOf v120 0, cellOf v120 1, cellOf v120 2, cellOf v120 3, cellOf v120 4]⟩), v121, Value.agg (⟨[cellOf v126 0, cellOf v126 1, cellOf v126 2, cellOf v126 3, cellOf v126 4]⟩), v127, vget l111 1]) s131 (fun v132 s133 => pUn UnOp.not v132 (fun v134 => pIf v134 (K112 AX.ret [vget l111 0, vget l111 1, Value.bool false, vget l111 3, vget l111 4, vget l111 5, vget l111 6, vget l111 7, vget l111 8, vget l111 9, vget l111 10, vget l111 11, vget l111 12, vget l111 13, vget l111 14] s133) (pBin Try.prog 3 BinOp.add (vget l111 4) (Value.int IntKind.i64 1) (fun v135 => K112 AX.normal [vget l111 0, vget l111 1, vget l111 2, vget l111 3, v135, vget l111 5, vget l111 6, vget l111 7, vget l111 8, vget l111 9, vget l111 10, vget l111 11, vget l111 12, vget l111 13, vget l111 14] s133)))))))))))))))))))) (K112 (AX.exit 0) [vget l111 0, vget l111 1, vget l111 2, vget l111 3, vget l111 4, vget l111 5, vget l111 6, vget l111 7, vget l111 8, vget l111 9, vget l111 10, vget l111 11, vget l111 12, vget l111 13, vget l111 14] s113)))) [a0, a5, Value.bool false, v109, Value.int IntKind.i64 0, cellOf a1 0, cellOf a1 1, cellOf a1 2, cellOf a1 3, cellOf a1 4, cellOf a3 0, cellOf a3 1, cellOf a3 2, cellOf a3 3, cellOf a3 4] s110 (fun x136 l137 s138 => match x136 with | .normal => R (Value.bool true) s138 | .ret => R (vget l137 2) s138 | .exit i139 => (match Nat.beq i139 0 with | true => R (Value.bool true) s138 | false => False))))))) (AC Try.prog w0 n_spec_l12Names ([Value.agg (⟨[cellOf a1 0, cellOf a1 1, cellOf a1 2, cellOf a1 3, cellOf a1 4]⟩), Value.agg (⟨[cellOf a3 0, cellOf a3 1, cellOf a3 2, cellOf a3 3, cellOf a3 4]⟩)]) σ (fun v140 s141 => pLoop (fun l142 K143 s144 => pLen (vget l142 3) (fun v145 => pBin Try.prog 3 BinOp.lss (vget l142 4) v145 (fun v146 => pIf v146 (pIndexAddr 1 (vget l142 3) (vget l142 4) (fun v147 => pLoad w0 1 v147 s144 (fun g148 => AC Try.prog w0 n_spec_l12Kid ([Value.agg (⟨[vget l142 5, vget l142 6, vget l142 7, vget l142 8, vget l142 9]⟩), g148 0]) s144 (fun v149 s150 => pExtract v149 0 (fun v151 => pExtract v149 1 (fun v152 => pVal true 5 v151 (pIndexAddr 1 (vget l142 3) (vget l142 4) (fun v153 => pLoad w0 1 v153 s150 (fun g154 => AC Try.prog w0 n_spec_l12Kid ([Value.agg (⟨[vget l142 10, vget l142 11, vget l142 12, vget l142 13, vget l142 14]⟩), g154 0]) s150 (fun v155 s156 => pExtract v155 0 (fun v157 => pExtract v155 1 (fun v158 => pVal true 5 v157 (pIndexAddr 1 (vget l142 3) (vget l142 4) (fun v159 => pLoad w0 1 v159 s156 (fun g160 => AC Try.prog w0 n_spec_l3Path [vget l142 0, g160 0] s156 (fun v161 s162 => AC Try.prog w0 n_spec_l12Covers ([v161, Value.agg (⟨[cellOf v151 0, cellOf v151 1, cellOf v151 2, cellOf v151 3, cellOf v151 4]⟩), v152, Value.agg (⟨[cellOf v157 0, cellOf v157 1, cellOf v157 2, cellOf v157 3, cellOf v157 4]⟩), v158, vget l142 1]) s162 (fun v163 s164 => pUn UnOp.not v163 (fun v165 => pIf v165 (K143 AX.ret [vget l142 0, vget l142 1, Value.bool false, vget l142 3, vget l142 4, vget l142 5, vget l142 6, vget l142 7, vget l142 8, vget l142 9, vget l142 10, vget l142 11, vget l142 12, vget l142 13, vget l142 14] s164) (pBin Try.prog 3 BinOp.add (vget l142 4) (Value.int IntKind.i64 1) (fun v166 => K143 AX.normal [vget l142 0, vget l142 1, vget l142 2, vget l142 3, v166, vget l142 5, vget l142 6, vget l142 7, vget l142 8, vget l142 9, vget l142 10, vget l142 11, vget l142 12, vget l142 13, vget l142 14] s164)))))))))))))))))))) (K143 (AX.exit 0) [vget l142 0, vget l142 1, vget l142 2, vget l142 3, vget l142 4, vget l142 5, vget l142 6, vget l142 7, vget l142 8, vget l142 9, vget l142 10, vget l142 11, vget l142 12, vget l142 13, vget l142 14] s144)))) [a0, a5, Value.bool false, v140, Value.int IntKind.i64 0, cellOf a1 0, cellOf a1 1, cellOf a1 2, cellOf a1 3, cellOf a1 4, cellOf a3 0, cellOf a3 1, cellOf a3 2, cellOf a3 3, cellOf a3 4] s141 (fun x167 l168 s169 => match x167 with | .normal => R (Value.bool true) s169 | .ret => R (vget l168 2) s169 | .exit i170 => (match Nat.beq i170 0 with | true => R (Value.bool true) s169 | false => False)))))))))))))
theorem vc_spec_l12Covers_eq (w0 : World) (a0 a1 a2 a3 a4 a5 : Value) (σ : Vw) (R : Value → Vw → Prop) : vc_spec_l12Covers w0 a0 a1 a2 a3 a4 a5 σ R = den Try.prog w0 kp_spec_l12Covers esc_spec_l12Covers (Try.f61.body.getD .skip) (entry Try.f61.ntmps [a0, a1, a2, a3, a4, a5]) σ (retK Try.prog Try.f61.results.toList R) := by kernel_rfl
theorem ac_spec_l12Covers {w0 : World} {a0 a1 a2 a3 a4 a5 : Value} {σ : Vw} {R : Value → Vw → Prop} (h : vc_spec_l12Covers w0 a0 a1 a2 a3 a4 a5 σ R) : AC Try.prog w0 n_spec_l12Covers [a0, a1, a2, a3, a4, a5] σ R := by
  refine ac_rule (fn := Try.f61) (c := Try.f61.body.getD .skip) kp_spec_l12Covers esc_spec_l12Covers Try.func61 (by kernel_rfl) (by kernel_rfl) ?_
  rw [← vc_spec_l12Covers_eq]
  exact h

/-- impl.covers -/
def kp_impl_covers : Nat → Keep
  | 1 => ⟨[], [], [], .step 0 (.step 1 (.step 2 (.step 3 (.step 4 (.step 5 (.step 6 (.step 7 (.step 8 (.step 9 (.step 10 (.step 11 (.step 12 (.step 13 (.step 14 (.step 15 (.step 16 (.step 17 (.step 18 (.step 19 (.step 20 (.step 21 (.step 22 (.step 23 (.step 24 (.step 25 (.step 26 (.step 27 (.step 28 (.step 29 (.step 30 (.step 31 (.step 32 (.step 33 (.step 34 (.step 35 (.step 36 (.step 37 (.step 38 (.step 39 (.done)))))))))))))))))))))))))))))))))))))))), [(1, [0]), (2, [0, 1]), (3, [0, 1, 2]), (4, [0, 1, 2, 3]), (5, [0, 1, 2, 3, 4]), (6, [0, 1, 2, 3, 4, 5]), (7, [0, 1, 2, 3, 4, 5, 6]), (8, [0, 1, 2, 3, 4, 5, 6, 7]), (9, [0, 1, 2, 3, 4, 5, 6, 7, 8]), (10, [0, 1, 2, 3, 4, 5, 6, 7, 8, 9]), (11, [0, 1, 2, 3, 4, 5, 6]), (12, [0, 1, 2, 3, 4, 5, 6, 11]), (13, [0, 1, 2, 3, 4, 5, 6, 11, 12]), (14, [0, 1, 2, 3, 4, 5, 6, 11, 12, 13]), (15, [0, 1, 2, 3, 4, 5, 6, 7, 8, 9, 10, 11, 12, 13, 14]), (16, [0, 1, 2, 3, 4, 5, 6, 7, 8, 9, 10, 11, 12, 13, 14, 15]), (17, [0, 1, 2, 3, 4, 5, 6, 7, 8, 9, 10, 11, 12, 13, 14, 15, 16]), (18, [0, 1, 2, 3, 4, 5, 6, 7, 8, 9, 10, 11, 12, 13, 14, 15, 16, 17]), (19, [0, 1, 2, 3, 4, 5, 6, 7, 8, 9, 10, 11, 12, 13, 14, 15, 16, 17, 18]), (20, [0, 1, 2, 3, 4, 5, 6, 7, 8, 9, 10, 11, 12, 13, 14, 15, 16, 17, 18, 19]), (21, [0, 1, 2, 3, 4, 5, 6, 7, 8, 9, 10, 11, 12, 13, 14, 15, 16, 17, 18, 19, 20]), (22, [0, 1, 2, 3, 4, 5, 6, 7, 8, 9, 10, 11, 12, 13, 14, 15, 16, 17]), (23, [0, 1, 2, 3, 4, 5, 6, 7, 8, 9, 10, 11, 12, 13, 14, 15, 16, 17, 22]), (24, [0, 1, 2, 3, 4, 5, 6, 7, 8, 9, 10, 11, 12, 13, 14, 15, 16, 17, 22, 23]), (25, [0, 1, 2, 3, 4, 5, 6, 7, 8, 9, 10, 11, 12, 13, 14, 15, 16, 17, 22, 23, 24]), (26, [0, 1, 2, 3, 4, 5, 6, 7, 8, 9, 10, 11, 12, 13, 14, 15, 16, 17, 18, 19, 20, 21, 22, 23, 24, 25]), (27, [0, 1, 2, 3, 4, 5, 6, 7, 8, 9, 10, 11, 12, 13, 14, 15, 16, 17, 18, 19, 20, 21, 22, 23, 24, 25, 26]), (28, [0, 1, 2, 3, 4, 5, 6, 7, 8, 9, 10, 11, 12, 13, 14, 15, 16, 17, 18, 19, 20, 21, 22, 23, 24, 25, 26, 27]), (29, [0, 1, 2, 3, 4, 5, 6, 7, 8, 9, 10, 11, 12, 13, 14, 15, 16, 17, 18, 19, 20, 21, 22, 23, 24, 25, 26, 27, 28]), (30, [0, 1, 2, 3, 4, 5, 6, 7, 8, 9, 10, 11, 12, 13, 14, 15, 16, 17, 18, 19, 20, 21, 22, 23, 24, 25, 26, 27, 28, 29]), (31, [0, 1, 2, 3, 4, 5, 6, 7, 8, 9, 10, 11, 12, 13, 14, 15, 16, 17, 18, 19, 20, 21, 22, 23, 24, 25, 26, 27, 28, 29, 30]), (32, [0, 1, 2, 3, 4, 5, 6, 7, 8, 9, 10, 11, 12, 13, 14, 15, 16, 17, 18, 19, 20, 21, 22, 23, 24, 25, 26, 27, 28, 29, 30, 31]), (33, [0, 1, 2, 3, 4, 5, 6, 7, 8, 9, 10, 11, 12, 13, 14, 15, 16, 17, 18, 19, 20, 21, 22, 23, 24, 25, 26, 27, 28]), (34, [0, 1, 2, 3, 4, 5, 6, 7, 8, 9, 10, 11, 12, 13, 14, 15, 16, 17, 18, 19, 20, 21, 22, 23, 24, 25, 26, 27, 28, 33]), (35, [0, 1, 2, 3, 4, 5, 6, 7, 8, 9, 10, 11, 12, 13, 14, 15, 16, 17, 18, 19, 20, 21, 22, 23, 24, 25, 26, 27, 28, 33, 34]), (36, [0, 1, 2, 3, 4, 5, 6, 7, 8, 9, 10, 11, 12, 13, 14, 15, 16, 17, 18, 19, 20, 21, 22, 23, 24, 25, 26, 27, 28, 33, 34, 35]), (37, [0, 1, 2, 3, 4, 5, 6, 7, 8, 9, 10, 11, 12, 13, 14, 15, 16, 17, 18, 19, 20, 21, 22, 23, 24, 25, 26, 27, 28, 29, 30, 31, 32, 33, 34, 35, 36]), (38, [0, 1, 2, 3, 4, 5, 6, 7, 8, 9, 10, 11, 12, 13, 14, 15, 16, 17, 18, 19, 20, 21, 22, 23, 24, 25, 26, 27, 28, 29, 30, 31, 32, 33, 34, 35, 36, 37]), (39, [0, 1, 2, 3, 4, 5, 6, 7, 8, 9, 10, 11, 12, 13, 14, 15, 16, 17, 18, 19, 20, 21, 22, 23, 24, 25, 26, 27, 28, 29, 30, 31, 32, 33, 34, 35, 36, 37, 38])]⟩
  | 10 => ⟨[0, 1, 2, 3, 8, 70, 71, 72], [], [], .done, []⟩
  | _ => ⟨[], [], [], .done, []⟩
def esc_impl_covers : Nat → Bool
  | 61 => true
  | _ => false
def vc_impl_covers (w0 : World) (a0 a1 a2 a3 : Value) (σ : Vw) (R : Value → Vw → Prop) : Prop :=
  pBin Try.prog 69 BinOp.neq a1 (Value.pointer Option.none) (fun v0 => pIf v0 (pBin Try.prog 69 BinOp.neq a2 (Value.pointer Option.none) (fun v1 => pIf v1 (pNil a1 (pField 0 a1 (fun v2 => pLoad w0 1 v2 σ (fun g3 => pNil a2 (pField 0 a2 (fun v4 => pLoad w0 1 v4 σ (fun g5 => pBin Try.prog 4 BinOp.eql (g3 0) (g5 0) (fun v6 => pIf v6 (pNil a1 (pField 1 a1 (fun v7 => pLoad w0 1 v7 σ (fun g8 => pNil a2 (pField 1 a2 (fun v9 => pLoad w0 1 v9 σ (fun g10 => pBin Try.prog 3 BinOp.eql (g8 0) (g10 0) (fun v11 => pIf v11 (pNil a1 (pField 2 a1 (fun v12 => pLoad w0 1 v12 σ (fun g13 => pNil a2 (pField 2 a2 (fun v14 => pLoad w0 1 v14 σ (fun g15 => pBin Try.prog 9 BinOp.eql (g13 0) (g15 0) (fun v16 => pUn UnOp.not v16 (fun v17 => pIf v17 (AC Try.prog w0 n_impl_marked [a3, a0] σ (fun v18 s19 => pUn UnOp.not v18 (fun v20 => pIf v20 (R (Value.bool false) s19) (pVal true 5 (Value.agg (⟨[Value.bool false, Value.int IntKind.i64 0, Value.string ({ data := #[] }), Value.slice Option.none 0 0, Value.slice Option.none 0 0]⟩)) (pNew w0 26 ([Value.bool false, Value.int IntKind.i64 0, Value.string ({ data := #[] }), Value.slice Option.none 0 0, Value.slice Option.none 0 0]) s19 (fun n21 s22 => pBin Try.prog 69 BinOp.eql a1 (Value.pointer Option.none) (fun v23 => pIf v23 (pBin Try.prog 69 BinOp.eql a2 (Value.pointer Option.none) (fun v24 => pIf v24 (AC Try.prog w0 n_impl_either [Value.pointer (Option.some (Addr.mk n21 0 Option.none)), Value.pointer (Option.some (Addr.mk n21 0 Option.none))] s22 (fun v25 s26 => pLen v25 (fun v27 => pLoop (fun l28 K29 s30 => pBin Try.prog 3 BinOp.lss (vget l28 7) (vget l28 6) (fun v31 => pIf v31 (pIndexAddr 1 (vget l28 5) (vget l28 7) (fun v32 => pLoad w0 1 v32 s30 (fun g33 => AC Try.prog w0 n_impl_below [vget l28 0, g33 0] s30 (fun v34 s35 => AC Try.prog w0 n_p_impl_Tree_kid [vget l28 1, g33 0] s35 (fun v36 s37 => AC Try.prog w0 n_p_impl_Tree_kid [vget l28 2, g33 0] s37 (fun v38 s39 => AC Try.prog w0 n_impl_covers [v34, v36, v38, vget l28 3] s39 (fun v40 s41 => pUn UnOp.not v40 (fun v42 => pIf v42 (K29 AX.ret [vget l28 0, vget l28 1, vget l28 2, vget l28 3, Value.bool false, vget l28 5, vget l28 6, vget l28 7] s41) (pBin Try.prog 3 BinOp.add (vget l28 7) (Value.int IntKind.i64 1) (fun v43 => K29 AX.normal [vget l28 0, vget l28 1, vget l28 2, vget l28 3, vget l28 4, vget l28 5, vget l28 6, v43] s41)))))))))) (K29 (AX.exit 0) [vget l28 0, vget l28 1, vget l28 2, vget l28 3, vget l28 4, vget l28 5, vget l28 6, vget l28 7] s30))) [a0, Value.pointer (Option.some (Addr.mk n21 0 Option.none)), Value.pointer (Option.some (Addr.mk n21 0 Option.none)), a3, Value.bool false, v25, v27, Value.int IntKind.i64 0] s26 (fun x44 l45 s46 => match x44 with | .normal => R (Value.bool true) s46 | .ret => R (vget l45 4) s46 | .exit i47 => (match Nat.beq i47 0 with | true => R (Value.bool true) s46 | false => False))))) (AC Try.prog w0 n_impl_either [Value.pointer (Option.some (Addr.mk n21 0 Option.none)), a2] s22 (fun v48 s49 => pLen v48 (fun v50 => pLoop (fun l51 K52 s53 => pBin Try.prog 3 BinOp.lss (vget l51 7) (vget l51 6) (fun v54 => pIf v54 (pIndexAddr 1 (vget l51 5) (vget l51 7) (fun v55 => pLoad w0 1 v55 s53 (fun g56 => AC Try.prog w0 n_impl_below [vget l51 0, g56 0] s53 (fun v57 s58 => AC Try.prog w0 n_p_impl_Tree_kid [vget l51 1, g56 0] s58 (fun v59 s60 => AC Try.prog w0 n_p_impl_Tree_kid [vget l51 2, g56 0] s60 (fun v61 s62 => AC Try.prog w0 n_impl_covers [v57, v59, v61, vget l51 3] s62 (fun v63 s64 => pUn UnOp.not v63 (fun v65 => pIf v65 (K52 AX.ret [vget l51 0, vget l51 1, vget l51 2, vget l51 3, Value.bool false, vget l51 5, vget l51 6, vget l51 7] s64) (pBin Try.prog 3 BinOp.add (vget l51 7) (Value.int IntKind.i64 1) (fun v66 => K52 AX.normal [vget l51 0, vget l51 1, vget l51 2, vget l51 3, vget l51 4, vget l51 5, vget l51 6, v66] s64)))))))))) (K52 (AX.exit 0) [vget l51 0, vget l51 1, vget l51 2, vget l51 3, vget l51 4, vget l51 5, vget l51 6, vget l51 7] s53))) [a0, Value.pointer (Option.some (Addr.mk n21 0 Option.none)), a2, a3, Value.bool false, v48, v50, Value.int IntKind.i64 0] s49 (fun x67 l68 s69 => match x67 with | .normal => R (Value.bool true) s69 | .ret => R (vget l68 4) s69 | .exit i70 => (match Nat.beq i70 0 with | true => R (Value.bool true) s69 | false => False))))))) (pBin Try.prog 69 BinOp.eql a2 (Value.pointer Option.none) (fun v71 => pIf v71 (AC Try.prog w0 n_impl_either [a1, Value.pointer (Option.some (Addr.mk n21 0 Option.none))] s22 (fun v72 s73 => pLen v72 (fun v74 => pLoop (fun l75 K76 s77 => pBin Try.prog 3 BinOp.lss (vget l75 7) (vget l75 6) (fun v78 => pIf v78 (pIndexAddr 1 (vget l75 5) (vget l75 7) (fun v79 => pLoad w0 1 v79 s77 (fun g80 => AC Try.prog w0 n_impl_below [vget l75 0, g80 0] s77 (fun v81 s82 => AC Try.prog w0 n_p_impl_Tree_kid [vget l75 1, g80 0] s82 (fun v83 s84 => AC Try.prog w0 n_p_impl_Tree_kid [vget l75 2, g80 0] s84 (fun v85 s86 => AC Try.prog w0 n_impl_covers [v81, v83, v85, vget l75 3] s86 (fun v87 s88 => pUn UnOp.not v87 (fun v89 => pIf v89 (K76 AX.ret [vget l75 0, vget l75 1, vget l75 2, vget l75 3, Value.bool false, vget l75 5, vget l75 6, vget l75 7] s88) (pBin Try.prog 3 BinOp.add (vget l75 7) (Value.int IntKind.i64 1) (fun v90 => K76 AX.normal [vget l75 0, vget l75 1, vget l75 2, vget l75 3, vget l75 4, vget l75 5, vget l75 6, v90] s88)))))))))) (K76 (AX.exit 0) [vget l75 0, vget l75 1, vget l75 2, vget l75 3, vget l75 4, vget l75 5, vget l75 6, vget l75 7] s77))) [a0, a1, Value.pointer (Option.some (Addr.mk n21 0 Option.none)), a3, Value.bool false, v72, v74, Value.int IntKind.i64 0] s73 (fun x91 l92 s93 => match x91 with | .normal => R (Value.bool true) s93 | .ret => R (vget l92 4) s93 | .exit i94 => (match Nat.beq i94 0 with | true => R (Value.bool true) s93 | false => False))))) (AC Try.prog w0 n_impl_either [a1, a2] s22 (fun v95 s96 => pLen v95 (fun v97 => pLoop (fun l98 K99 s100 => pBin Try.prog 3 BinOp.lss (vget l98 7) (vget l98 6) (fun v101 => pIf v101 (pIndexAddr 1 (vget l98 5) (vget l98 7) (fun v102 => pLoad w0 1 v102 s100 (fun g103 => AC Try.prog w0 n_impl_below [vget l98 0, g103 0] s100 (fun v104 s105 => AC Try.prog w0 n_p_impl_Tree_kid [vget l98 1, g103 0] s105 (fun v106 s107 => AC Try.prog w0 n_p_impl_Tree_kid [vget l98 2, g103 0] s107 (fun v108 s109 => AC Try.prog w0 n_impl_covers [v104, v106, v108, vget l98 3] s109 (fun v110 s111 => pUn UnOp.not v110 (fun v112 => pIf v112 (K99 AX.ret [vget l98 0, vget l98 1, vget l98 2, vget l98 3, Value.bool false, vget l98 5, vget l98 6, vget l98 7] s111) (pBin Try.prog 3 BinOp.add (vget l98 7) (Value.int IntKind.i64 1) (fun v113 => K99 AX.normal [vget l98 0, vget l98 1, vget l98 2, vget l98 3, vget l98 4, vget l98 5, vget l98 6, v113] s111)))))))))) (K99 (AX.exit 0) [vget l98 0, vget l98 1, vget l98 2, vget l98 3, vget l98 4, vget l98 5, vget l98 6, vget l98 7] s100))) [a0, a1, a2, a3, Value.bool false, v95, v97, Value.int IntKind.i64 0] s96 (fun x114 l115 s116 => match x114 with | .normal => R (Value.bool true) s116 | .ret => R (vget l115 4) s116 | .exit i117 => (match Nat.beq i117 0 with | true => R (Value.bool true) s116 | false => False)))))))))))))) (pVal true 5 (Value.agg (⟨[Value.bool false, Value.int IntKind.i64 0, Value.string ({ data := #[] }), Value.slice Option.none 0 0, Value.slice Option.none 0 0]⟩)) (pNew w0 26 ([Value.bool false, Value.int IntKind.i64 0, Value.string ({ data := #[] }), Value.slice Option.none 0 0, Value.slice Option.none 0 0]) σ (fun n118 s119 => pBin Try.prog 69 BinOp.eql a1 (Value.pointer Option.none) (fun v120 => pIf v120 (pBin Try.prog 69 BinOp.eql a2 (Value.pointer Option.none) (fun v121 => pIf v121 (AC Try.prog w0 n_impl_either [Value.pointer (Option.some (Addr.mk n118 0 Option.none)), Value.pointer (Option.some (Addr.mk n118 0 Option.none))] s119 (fun v122 s123 => pLen v122 (fun v124 => pLoop (fun l125 K126 s127 => pBin Try.prog 3 BinOp.lss (vget l125 7) (vget l125 6) (fun v128 => pIf v128 (pIndexAddr 1 (vget l125 5) (vget l125 7) (fun v129 => pLoad w0 1 v129 s127 (fun g130 => AC Try.prog w0 n_impl_below [vget l125 0, g130 0] s127 (fun v131 s132 => AC Try.prog w0 n_p_impl_Tree_kid [vget l125 1, g130 0] s132 (fun v133 s134 => AC Try.prog w0 n_p_impl_Tree_kid [vget l125 2, g130 0] s134 (fun v135 s136 => AC Try.prog w0 n_impl_covers [v131, v133, v135, vget l125 3] s136 (fun v137 s138 => pUn UnOp.not v137 (fun v139 => pIf v139 (K126 AX.ret [vget l125 0, vget l125 1, vget l125 2, vget l125 3, Value.bool false, vget l125 5, vget l125 6, vget l125 7] s138) (pBin Try.prog 3 BinOp.add (vget l125 7) (Value.int IntKind.i64 1) (fun v140 => K126 AX.normal [vget l125 0, vget l125 1, vget l125 2, vget l125 3, vget l125 4, vget l125 5, vget l125 6, v140] s138)))))))))) (K126 (AX.exit 0) [vget l125 0, vget l125 1, vget l125 2, vget l125 3, vget l125 4, vget l125 5, vget l125 6, vget l125 7] s127))) [a0, Value.pointer (Option.some (Addr.mk n118 0 Option.none)), Value.pointer (Option.some (Addr.mk n118 0 Option.none)), a3, Value.bool false, v122, v124, Value.int IntKind.i64 0] s123 (fun x141 l142 s143 => match x141 with | .normal => R (Value.bool true) s143 | .ret => R (vget l142 4) s143 | .exit i144 => (match Nat.beq i144 0 with | true => R (Value.bool true) s143 | false => False))))) (AC Try.prog w0 n_impl_either [Value.pointer (Option.some (Addr.mk n118 0 Option.none)), a2] s119 (fun v145 s146 => pLen v145 (fun v147 => pLoop (fun l148 K149 s150 => pBin Try.prog 3 BinOp.lss (vget l148 7) (vget l148 6) (fun v151 => pIf v151 (pIndexAddr 1 (vget l148 5) (vget l148 7) (fun v152 => pLoad w0 1 v152 s150 (fun g153 => AC Try.prog w0 n_impl_below [vget l148 0, g153 0] s150 (fun v154 s155 => AC Try.prog w0 n_p_impl_Tree_kid [vget l148 1, g153 0] s155 (fun v156 s157 => AC Try.prog w0 n_p_impl_Tree_kid [vget l148 2, g153 0] s157 (fun v158 s159 => AC Try.prog w0 n_impl_covers [v154, v156, v158, vget l148 3] s159 (fun v160 s161 => pUn UnOp.not v160 (fun v162 => pIf v162 (K149 AX.ret [vget l148 0, vget l148 1, vget l148 2, vget l148 3, Value.bool false, vget l148 5, vget l148 6, vget l148 7] s161) (pBin Try.prog 3 BinOp.add (vget l148 7) (Value.int IntKind.i64 1) (fun v163 => K149 AX.normal [vget l148 0, vget l148 1, vget l148 2, vget l148 3, vget l148 4, vget l148 5, vget l148 6, v163] s161)))))))))) (K149 (AX.exit 0) [vget l148 0, vget l148 1, vget l148 2, vget l148 3, vget l148 4, vget l148 5, vget l148 6, vget l148 7] s150))) [a0, Value.pointer (Option.some (Addr.mk n118 0 Option.none)), a2, a3, Value.bool false, v145, v147, Value.int IntKind.i64 0] s146 (fun x164 l165 s166 => match x164 with | .normal => R (Value.bool true) s166 | .ret => R (vget l165 4) s166 | .exit i167 => (match Nat.beq i167 0 with | true => R (Value.bool true) s166 | false => False))))))) (pBin Try.prog 69 BinOp.eql a2 (Value.pointer Option.none) (fun v168 => pIf v168 (AC Try.prog w0 n_impl_either [a1, Value.pointer (Option.some (Addr.mk n118 0 Option.none))] s119 (fun v169 s170 => pLen v169 (fun v171 => pLoop (fun l172 K173 s174 => pBin Try.prog 3 BinOp.lss (vget l172 7) (vget l172 6) (fun v175 => pIf v175 (pIndexAddr 1 (vget l172 5) (vget l172 7) (fun v176 => pLoad w0 1 v176 s174 (fun g177 => AC Try.prog w0 n_impl_below [vget l172 0, g177 0] s174 (fun v178 s179 => AC Try.prog w0 n_p_impl_Tree_kid [vget l172 1, g177 0] s179 (fun v180 s181 => AC Try.prog w0 n_p_impl_Tree_kid [vget l172 2, g177 0] s181 (fun v182 s183 => AC Try.prog w0 n_impl_covers [v178, v180, v182, vget l172 3] s183 (fun v184 s185 => pUn UnOp.not v184 (fun v186 => pIf v186 (K173 AX.ret [vget l172 0, vget l172 1, vget l172 2, vget l172 3, Value.bool false, vget l172 5, vget l172 6, vget l172 7] s185) (pBin Try.prog 3 BinOp.add (vget l172 7) (Value.int IntKind.i64 1) (fun v187 => K173 AX.normal [vget l172 0, vget l172 1, vget l172 2, vget l172 3, vget l172 4, vget l172 5, vget l172 6, v187] s185)))))))))) (K173 (AX.exit 0) [vget l172 0, vget l172 1, vget l172 2, vget l172 3, vget l172 4, vget l172 5, vget l172 6, vget l172 7] s174))) [a0, a1, Value.pointer (Option.some (Addr.mk n118 0 Option.none)), a3, Value.bool false, v169, v171, Value.int IntKind.i64 0] s170 (fun x188 l189 s190 => match x188 with | .normal => R (Value.bool true) s190 | .ret => R (vget l189 4) s190 | .exit i191 => (match Nat.beq i191 0 with | true => R (Value.bool true) s190 | false => False))))) (AC Try.prog w0 n_impl_either [a1, a2] s119 (fun v192 s193 => pLen v192 (fun v194 => pLoop (fun l195 K196 s197 => pBin Try.prog 3 BinOp.lss (vget l195 7) (vget l195 6) (fun v198 => pIf v198 (pIndexAddr 1 (vget l195 5) (vget l195 7) (fun v199 => pLoad w0 1 v199 s197 (fun g200 => AC Try.prog w0 n_impl_below [vget l195 0, g200 0] s197 (fun v201 s202 => AC Try.prog w0 n_p_impl_Tree_kid [vget l195 1, g200 0] s202 (fun v203 s204 => AC Try.prog w0 n_p_impl_Tree_kid [vget l195 2, g200 0] s204 (fun v205 s206 => AC Try.prog w0 n_impl_covers [v201, v203, v205, vget l195 3] s206 (fun v207 s208 => pUn UnOp.not v207 (fun v209 => pIf v209 (K196 AX.ret [vget l195 0, vget l195 1, vget l195 2, vget l195 3, Value.bool false, vget l195 5, vget l195 6, vget l195 7] s208) (pBin Try.prog 3 BinOp.add (vget l195 7) (Value.int IntKind.i64 1) (fun v210 => K196 AX.normal [vget l195 0, vget l195 1, vget l195 2, vget l195 3, vget l195 4, vget l195 5, vget l195 6, v210] s208)))))))))) (K196 (AX.exit 0) [vget l195 0, vget l195 1, vget l195 2, vget l195 3, vget l195 4, vget l195 5, vget l195 6, vget l195 7] s197))) [a0, a1, a2, a3, Value.bool false, v192, v194, Value.int IntKind.i64 0] s193 (fun x211 l212 s213 => match x211 with | .normal => R (Value.bool true) s213 | .ret => R (vget l212 4) s213 | .exit i214 => (match Nat.beq i214 0 with | true => R (Value.bool true) s213 | false => False)))))))))))))))))))) (pUn UnOp.not (Value.bool false) (fun v215 => pIf v215 (AC Try.prog w0 n_impl_marked [a3, a0] σ (fun v216 s217 => pUn UnOp.not v216 (fun v218 => pIf v218 (R (Value.bool false) s217) (pVal true 5 (Value.agg (⟨[Value.bool false, Value.int IntKind.i64 0, Value.string ({ data := #[] }), Value.slice Option.none 0 0, Value.slice Option.none 0 0]⟩)) (pNew w0 26 ([Value.bool false, Value.int IntKind.i64 0, Value.string ({ data := #[] }), Value.slice Option.none 0 0, Value.slice Option.none 0 0]) s217 (fun n219 s220 => pBin Try.prog 69 BinOp.eql a1 (Value.pointer Option.none) (fun v221 => pIf v221 (pBin Try.prog 69 BinOp.eql a2 (Value.pointer Option.none) (fun v222 => pIf v222 (AC Try.prog w0 n_impl_either [Value.pointer (Option.some (Addr.mk n219 0 Option.none)), Value.pointer (Option.some (Addr.mk n219 0 Option.none))] s220 (fun v223 s224 => pLen v223 (fun v225 => pLoop (fun l226 K227 s228 => pBin Try.prog 3 BinOp.lss (vget l226 7) (vget l226 6) (fun v229 => pIf v229 (pIndexAddr 1 (vget l226 5) (vget l226 7) (fun v230 => pLoad w0 1 v230 s228 (fun g231 => AC Try.prog w0 n_impl_below [vget l226 0, g231 0] s228 (fun v232 s233 => AC Try.prog w0 n_p_impl_Tree_kid [vget l226 1, g231 0] s233 (fun v234 s235 => AC Try.prog w0 n_p_impl_Tree_kid [vget l226 2, g231 0] s235 (fun v236 s237 => AC Try.prog w0 n_impl_covers [v232, v234, v236, vget l226 3] s237 (fun v238 s239 => pUn UnOp.not v238 (fun v240 => pIf v240 (K227 AX.ret [vget l226 0, vget l226 1, vget l226 2, vget l226 3, Value.bool false, vget l226 5, vget l226 6, vget l226 7] s239) (pBin Try.prog 3 BinOp.add (vget l226 7) (Value.int IntKind.i64 1) (fun v241 => K227 AX.normal [vget l226 0, vget l226 1, vget l226 2, vget l226 3, vget l226 4, vget l226 5, vget l226 6, v241] s239)))))))))) (K227 (AX.exit 0) [vget l226 0, vget l226 1, vget l226 2, vget l226 3, vget l226 4, vget l226 5, vget l226 6, vget l226 7] s228))) [a0, Value.pointer (Option.some (Addr.mk n219 0 Option.none)), Value.pointer (Option.some (Addr.mk n219 0 Option.none)), a3, Value.bool false, v223, v225, Value.int IntKind.i64 0] s224 (fun x242 l243 s244 => match x242 with | .normal => R (Value.bool true) s244 | .ret => R (vget l243 4) s244 | .exit i245 => (match Nat.beq i245 0 with | true => R (Value.bool true) s244 | false => False))))) (AC Try.prog w0 n_impl_either [Value.pointer (Option.some (Addr.mk n219 0 Option.none)), a2] s220 (fun v246 s247 => pLen v246 (fun v248 => pLoop (fun l249 K250 s251 => pBin Try.prog 3 BinOp.lss (vget l249 7) (vget l249 6) (fun v252 => pIf v252 (pIndexAddr 1 (vget l249 5) (vget l249 7) (fun v253 => pLoad w0 1 v253 s251 (fun g254 => AC Try.prog w0 n_impl_below [vget l249 0, g254 0] s251 (fun v255 s256 => AC Try.prog w0 n_p_impl_Tree_kid [vget l249 1, g254 0] s256 (fun v257 s258 => AC Try.prog w0 n_p_impl_Tree_kid [vget l249 2, g254 0] s258 (fun v259 s260 => AC Try.prog w0 n_impl_covers [v255, v257, v259, vget l249 3] s260 (fun v261 s262 => pUn UnOp.not v261 (fun v263 => pIf v263 (K250 AX.ret [vget l249 0, vget l249 1, vget l249 2, vget l249 3, Value.bool false, vget l249 5, vget l249 6, vget l249 7] s262) (pBin Try.prog 3 BinOp.add (vget l249 7) (Value.int IntKind.i64 1) (fun v264 => K250 AX.normal [vget l249 0, vget l249 1, vget l249 2, vget l249 3, vget l249 4, vget l249 5, vget l249 6, v264] s262)))))))))) (K250 (AX.exit 0) [vget l249 0, vget l249 1, vget l249 2, vget l249 3, vget l249 4, vget l249 5, vget l249 6, vget l249 7] s251))) [a0, Value.pointer (Option.some (Addr.mk n219 0 Option.none)), a2, a3, Value.bool false, v246, v248, Value.int IntKind.i64 0] s247 (fun x265 l266 s267 => match x265 with | .normal => R (Value.bool true) s267 | .ret => R (vget l266 4) s267 | .exit i268 => (match Nat.beq i268 0 with | true => R (Value.bool true) s267 | false => False))))))) (pBin Try.prog 69 BinOp.eql a2 (Value.pointer Option.none) (fun v269 => pIf v269 (AC Try.prog w0 n_impl_either [a1, Value.pointer (Option.some (Addr.mk n219 0 Option.none))] s220 (fun v270 s271 => pLen v270 (fun v272 => pLoop (fun l273 K274 s275 => pBin Try.prog 3 BinOp.lss (vget l273 7) (vget l273 6) (fun v276 => pIf v276 (pIndexAddr 1 (vget l273 5) (vget l273 7) (fun v277 => pLoad w0 1 v277 s275 (fun g278 => AC Try.prog w0 n_impl_below [vget l273 0, g278 0] s275 (fun v279 s280 => AC Try.prog w0 n_p_impl_Tree_kid [vget l273 1, g278 0] s280 (fun v281 s282 => AC Try.prog w0 n_p_impl_Tree_kid [vget l273 2, g278 0] s282 (fun v283 s284 => AC Try.prog w0 n_impl_covers [v279, v281, v283, vget l273 3] s284 (fun v285 s286 => pUn UnOp.not v285 (fun v287 => pIf v287 (K274 AX.ret [vget l273 0, vget l273 1, vget l273 2, vget l273 3, Value.bool false, vget l273 5, vget l273 6, vget l273 7] s286) (pBin Try.prog 3 BinOp.add (vget l273 7) (Value.int IntKind.i64 1) (fun v288 => K274 AX.normal [vget l273 0, vget l273 1, vget l273 2, vget l273 3, vget l273 4, vget l273 5, vget l273 6, v288] s286)))))))))) (K274 (AX.exit 0) [vget l273 0, vget l273 1, vget l273 2, vget l273 3, vget l273 4, vget l273 5, vget l273 6, vget l273 7] s275))) [a0, a1, Value.pointer (Option.some (Addr.mk n219 0 Option.none)), a3, Value.bool false, v270, v272, Value.int IntKind.i64 0] s271 (fun x289 l290 s291 => match x289 with | .normal => R (Value.bool true) s291 | .ret => R (vget l290 4) s291 | .exit i292 => (match Nat.beq i292 0 with | true => R (Value.bool true) s291 | false => False))))) (AC Try.prog w0 n_impl_either [a1, a2] s220 (fun v293 s294 => pLen v293 (fun v295 => pLoop (fun l296 K297 s298 => pBin Try.prog 3 BinOp.lss (vget l296 7) (vget l296 6) (fun v299 => pIf v299 (pIndexAddr 1 (vget l296 5) (vget l296 7) (fun v300 => pLoad w0 1 v300 s298 (fun g301 => AC Try.prog w0 n_impl_below [vget l296 0, g301 0] s298 (fun v302 s303 => AC Try.prog w0 n_p_impl_Tree_kid [vget l296 1, g301 0] s303 (fun v304 s305 => AC Try.prog w0 n_p_impl_Tree_kid [vget l296 2, g301 0] s305 (fun v306 s307 => AC Try.prog w0 n_impl_covers [v302, v304, v306, vget l296 3] s307 (fun v308 s309 => pUn UnOp.not v308 (fun v310 => pIf v310 (K297 AX.ret [vget l296 0, vget l296 1, vget l296 2, vget l296 3, Value.bool false, vget l296 5, vget l296 6, vget l296 7] s309) (pBin Try.prog 3 BinOp.add (vget l296 7) (Value.int IntKind.i64 1) (fun v311 => K297 AX.normal [vget l296 0, vget l296 1, vget l296 2, vget l296 3, vget l296 4, vget l296 5, vget l296 6, v311] s309)))))))))) (K297 (AX.exit 0) [vget l296 0, vget l296 1, vget l296 2, vget l296 3, vget l296 4, vget l296 5, vget l296 6, vget l296 7] s298))) [a0, a1, a2, a3, Value.bool false, v293, v295, Value.int IntKind.i64 0] s294 (fun x312 l313 s314 => match x312 with | .normal => R (Value.bool true) s314 | .ret => R (vget l313 4) s314 | .exit i315 => (match Nat.beq i315 0 with | true => R (Value.bool true) s314 | false => False)))))))))))))) (pVal true 5 (Value.agg (⟨[Value.bool false, Value.int IntKind.i64 0, Value.string ({ data := #[] }), Value.slice Option.none 0 0, Value.slice Option.none 0 0]⟩)) (pNew w0 26 ([Value.bool false, Value.int IntKind.i64 0, Value.string ({ data := #[] }), Value.slice Option.none 0 0, Value.slice Option.none 0 0]) σ (fun n316 s317 => pBin Try.prog 69 BinOp.eql a1 (Value.pointer Option.none) (fun v318 => pIf v318 (pBin Try.prog 69 BinOp.eql a2 (Value.pointer Option.none) (fun v319 => pIf v319 (AC Try.prog w0 n_impl_either [Value.pointer (Option.some (Addr.mk n316 0 Option.none)), Value.pointer (Option.some (Addr.mk n316 0 Option.none))] s317 (fun v320 s321 => pLen v320 (fun v322 => pLoop (fun l323 K324 s325 => pBin Try.prog 3 BinOp.lss (vget l323 7) (vget l323 6) (fun v326 => pIf v326 (pIndexAddr 1 (vget l323 5) (vget l323 7) (fun v327 => pLoad w0 1 v327 s325 (fun g328 => AC Try.prog w0 n_impl_below [vget l323 0, g328 0] s325 (fun v329 s330 => AC Try.prog w0 n_p_impl_Tree_kid [vget l323 1, g328 0] s330 (fun v331 s332 => AC Try.prog w0 n_p_impl_Tree_kid [vget l323 2, g328 0] s332 (fun v333 s334 => AC Try.prog w0 n_impl_covers [v329, v331, v333, vget l323 3] s334 (fun v335 s336 => pUn UnOp.not v335 (fun v337 => pIf v337 (K324 AX.ret [vget l323 0, vget l323 1, vget l323 2, vget l323 3, Value.bool false, vget l323 5, vget l323 6, vget l323 7] s336) (pBin Try.prog 3 BinOp.add (vget l323 7) (Value.int IntKind.i64 1) (fun v338 => K324 AX.normal [vget l323 0, vget l323 1, vget l323 2, vget l323 3, vget l323 4, vget l323 5, vget l323 6, v338] s336)))))))))) (K324 (AX.exit 0) [vget l323 0, vget l323 1, vget l323 2, vget l323 3, vget l323 4, vget l323 5, vget l323 6, vget l323 7] s325))) [a0, Value.pointer (Option.some (Addr.mk n316 0 Option.none)), Value.pointer (Option.some (Addr.mk n316 0 Option.none)), a3, Value.bool false, v320, v322, Value.int IntKind.i64 0] s321 (fun x339 l340 s341 => match x339 with | .normal => R (Value.bool true) s341 | .ret => R (vget l340 4) s341 | .exit i342 => (match Nat.beq i342 0 with | true => R (Value.bool true) s341 | false => False))))) (AC Try.prog w0 n_impl_either [Value.pointer (Option.some (Addr.mk n316 0 Option.none)), a2] s317 (fun v343 s344 => pLen v343 (fun v345 => pLoop (fun l346 K347 s348 => pBin Try.prog 3 BinOp.lss (vget l346 7) (vget l346 6) (fun v349 => pIf v349 (pIndexAddr 1 (vget l346 5) (vget l346 7) (fun v350 => pLoad w0 1 v350 s348 (fun g351 => AC Try.prog w0 n_impl_below [vget l346 0, g351 0] s348 (fun v352 s353 => AC Try.prog w0 n_p_impl_Tree_kid [vget l346 1, g351 0] s353 (fun v354 s355 => AC Try.prog w0 n_p_impl_Tree_kid [vget l346 2, g351 0] s355 (fun v356 s357 => AC Try.prog w0 n_impl_covers [v352, v354, v356, vget l346 3] s357 (fun v358 s359 => pUn UnOp.not v358 (fun v360 => pIf v360 (K347 AX.ret [vget l346 0, vget l346 1, vget l346 2, vget l346 3, Value.bool false, vget l346 5, vget l346 6, vget l346 7] s359) (pBin Try.prog 3 BinOp.add (vget l346 7) (Value.int IntKind.i64 1) (fun v361 => K347 AX.normal [vget l346 0, vget l346 1, vget l346 2, vget l346 3, vget l346 4, vget l346 5, vget l346 6, v361] s359)))))))))) (K347 (AX.exit 0) [vget l346 0, vget l346 1, vget l346 2, vget l346 3, vget l346 4, vget l346 5, vget l346 6, vget l346 7] s348))) [a0, Value.pointer (Option.some (Addr.mk n316 0 Option.none)), a2, a3, Value.bool false, v343, v345, Value.int IntKind.i64 0] s344 (fun x362 l363 s364 => match x362 with | .normal => R (Value.bool true) s364 | .ret => R (vget l363 4) s364 | .exit i365 => (match Nat.beq i365 0 with | true => R (Value.bool true) s364 | false => False))))))) (pBin Try.prog 69 BinOp.eql a2 (Value.pointer Option.none) (fun v366 => pIf v366 (AC Try.prog w0 n_impl_either [a1, Value.pointer (Option.some (Addr.mk n316 0 Option.none))] s317 (fun v367 s368 => pLen v367 (fun v369 => pLoop (fun l370 K371 s372 => pBin Try.prog 3 BinOp.lss (vget l370 7) (vget l370 6) (fun v373 => pIf v373 (pIndexAddr 1 (vget l370 5) (vget l370 7) (fun v374 => pLoad w0 1 v374 s372 (fun g375 => AC Try.prog w0 n_impl_below [vget l370 0, g375 0] s372 (fun v376 s377 => AC Try.prog w0 n_p_impl_Tree_kid [vget l370 1, g375 0] s377 (fun v378 s379 => AC Try.prog w0 n_p_impl_Tree_kid [vget l370 2, g375 0] s379 (fun v380 s381 => AC Try.prog w0 n_impl_covers [v376, v378, v380, vget l370 3] s381 (fun v382 s383 => pUn UnOp.not v382 (fun v384 => pIf v384 (K371 AX.ret [vget l370 0, vget l370 1, vget l370 2, vget l370 3, Value.bool false, vget l370 5, vget l370 6, vget l370 7] s383) (pBin Try.prog 3 BinOp.add (vget l370 7) (Value.int IntKind.i64 1) (fun v385 => K371 AX.normal [vget l370 0, vget l370 1, vget l370 2, vget l370 3, vget l370 4, vget l370 5, vget l370 6, v385] s383)))))))))) (K371 (AX.exit 0) [vget l370 0, vget l370 1, vget l370 2, vget l370 3, vget l370 4, vget l370 5, vget l370 6, vget l370 7] s372))) [a0, a1, Value.pointer (Option.some (Addr.mk n316 0 Option.none)), a3, Value.bool false, v367, v369, Value.int IntKind.i64 0] s368 (fun x386 l387 s388 => match x386 with | .normal => R (Value.bool true) s388 | .ret => R (vget l387 4) s388 | .exit i389 => (match Nat.beq i389 0 with | true => R (Value.bool true) s388 | false => False))))) (AC Try.prog w0 n_impl_either [a1, a2] s317 (fun v390 s391 => pLen v390 (fun v392 => pLoop (fun l393 K394 s395 => pBin Try.prog 3 BinOp.lss (vget l393 7) (vget l393 6) (fun v396 => pIf v396 (pIndexAddr 1 (vget l393 5) (vget l393 7) (fun v397 => pLoad w0 1 v397 s395 (fun g398 => AC Try.prog w0 n_impl_below [vget l393 0, g398 0] s395 (fun v399 s400 => AC Try.prog w0 n_p_impl_Tree_kid [vget l393 1, g398 0] s400 (fun v401 s402 => AC Try.prog w0 n_p_impl_Tree_kid [vget l393 2, g398 0] s402 (fun v403 s404 => AC Try.prog w0 n_impl_covers [v399, v401, v403, vget l393 3] s404 (fun v405 s406 => pUn UnOp.not v405 (fun v407 => pIf v407 (K394 AX.ret [vget l393 0, vget l393 1, vget l393 2, vget l393 3, Value.bool false, vget l393 5, vget l393 6, vget l393 7] s406) (pBin Try.prog 3 BinOp.add (vget l393 7) (Value.int IntKind.i64 1) (fun v408 => K394 AX.normal [vget l393 0, vget l393 1, vget l393 2, vget l393 3, vget l393 4, vget l393 5, vget l393 6, v408] s406)))))))))) (K394 (AX.exit 0) [vget l393 0, vget l393 1, vget l393 2, vget l393 3, vget l393 4, vget l393 5, vget l393 6, vget l393 7] s395))) [a0, a1, a2, a3, Value.bool false, v390, v392, Value.int IntKind.i64 0] s391 (fun x409 l410 s411 => match x409 with | .normal => R (Value.bool true) s411 | .ret => R (vget l410 4) s411 | .exit i412 => (match Nat.beq i412 0 with | true => R (Value.bool true) s411 | false => False))))))))))))))))))))) (pUn UnOp.not (Value.bool false) (fun v413 => pIf v413 (AC Try.prog w0 n_impl_marked [a3, a0] σ (fun v414 s415 => pUn UnOp.not v414 (fun v416 => pIf v416 (R (Value.bool false) s415) (pVal true 5 (Value.agg (⟨[Value.bool false, Value.int IntKind.i64 0, Value.string ({ data := #[] }), Value.slice Option.none 0 0, Value.slice Option.none 0 0]⟩)) (pNew w0 26 ([Value.bool false, Value.int IntKind.i64 0, Value.string ({ data := #[] }), Value.slice Option.none 0 0, Value.slice Option.none 0 0]) s415 (fun n417 s418 => pBin Try.prog 69 BinOp.eql a1 (Value.pointer Option.none) (fun v419 => pIf v419 (pBin Try.prog 69 BinOp.eql a2 (Value.pointer Option.none) (fun v420 => pIf v420 (AC Try.prog w0 n_impl_either [Value.pointer (Option.some (Addr.mk n417 0 Option.none)), Value.pointer (Option.some (Addr.mk n417 0 Option.none))] s418 (fun v421 s422 => pLen v421 (fun v423 => pLoop (fun l424 K425 s426 => pBin Try.prog 3 BinOp.lss (vget l424 7) (vget l424 6) (fun v427 => pIf v427 (pIndexAddr 1 (vget l424 5) (vget l424 7) (fun v428 => pLoad w0 1 v428 s426 (fun g429 => AC Try.prog w0 n_impl_below [vget l424 0, g429 0] s426 (fun v430 s431 => AC Try.prog w0 n_p_impl_Tree_kid [vget l424 1, g429 0] s431 (fun v432 s433 => AC Try.prog w0 n_p_impl_Tree_kid [vget l424 2, g429 0] s433 (fun v434 s435 => AC Try.prog w0 n_impl_covers [v430, v432, v434, vget l424 3] s435 (fun v436 s437 => pUn UnOp.not v436 (fun v438 => pIf v438 (K425 AX.ret [vget l424 0, vget l424 1, vget l424 2, vget l424 3, Value.bool false, vget l424 5, vget l424 6, vget l424 7] s437) (pBin Try.prog 3 BinOp.add (vget l424 7) (Value.int IntKind.i64 1) (fun v439 => K425 AX.normal [vget l424 0, vget l424 1, vget l424 2, vget l424 3, vget l424 4, vget l424 5, vget l424 6, v439] s437)))))))))) (K425 (AX.exit 0) [vget l424 0, vget l424 1, vget l424 2, vget l424 3, vget l424 4, vget l424 5, vget l424 6, vget l424 7] s426))) [a0, Value.pointer (Option.some (Addr.mk n417 0 Option.none)), Value.pointer (Option.some (Addr.mk n417 0 Option.none)), a3, Value.bool false, v421, v423, Value.int IntKind.i64 0] s422 (fun x440 l441 s442 => match x440 with | .normal => R (Value.bool true) s442 | .ret => R (vget l441 4) s442 | .exit i443 => (match Nat.beq i443 0 with | true => R (Value.bool true) s442 | false => False))))) (AC Try.prog w0 n_impl_either [Value.pointer (Option.some (Addr.mk n417 0 Option.none)), a2] s418 (fun v444 s445 => pLen v444 (fun v446 => pLoop (fun l447 K448 s449 => pBin Try.prog 3 BinOp.lss (vget l447 7) (vget l447 6) (fun v450 => pIf v450 (pIndexAddr 1 (vget l447 5) (vget l447 7) (fun v451 => pLoad w0 1 v451 s449 (fun g452 => AC Try.prog w0 n_impl_below [vget l447 0, g452 0] s449 (fun v453 s454 => AC Try.prog w0 n_p_impl_Tree_kid [vget l447 1, g452 0] s454 (fun v455 s456 => AC Try.prog w0 n_p_impl_Tree_kid [vget l447 2, g452 0] s456 (fun v457 s458 => AC Try.prog w0 n_impl_covers [v453, v455, v457, vget l447 3] s458 (fun v459 s460 => pUn UnOp.not v459 (fun v461 => pIf v461 (K448 AX.ret [vget l447 0, vget l447 1, vget l447 2, vget l447 3, Value.bool false, vget l447 5, vget l447 6, vget l447 7] s460) (pBin Try.prog 3 BinOp.add (vget l447 7) (Value.int IntKind.i64 1) (fun v462 => K448 AX.normal [vget l447 0, vget l447 1, vget l447 2, vget l447 3, vget l447 4, vget l447 5, vget l447 6, v462] s460)))))))))) (K448 (AX.exit 0) [vget l447 0, vget l447 1, vget l447 2, vget l447 3, vget l447 4, vget l447 5, vget l447 6, vget l447 7] s449))) [a0, Value.pointer (Option.some (Addr.mk n417 0 Option.none)), a2, a3, Value.bool false, v444, v446, Value.int IntKind.i64 0] s445 (fun x463 l464 s465 => match x463 with | .normal => R (Value.bool true) s465 | .ret => R (vget l464 4) s465 | .exit i466 => (match Nat.beq i466 0 with | true => R (Value.bool true) s465 | false => False))))))) (pBin Try.prog 69 BinOp.eql a2 (Value.pointer Option.none) (fun v467 => pIf v467 (AC Try.prog w0 n_impl_either [a1, Value.pointer (Option.some (Addr.mk n417 0 Option.none))] s418 (fun v468 s469 => pLen v468 (fun v470 => pLoop (fun l471 K472 s473 => pBin Try.prog 3 BinOp.lss (vget l471 7) (vget l471 6) (fun v474 => pIf v474 (pIndexAddr 1 (vget l471 5) (vget l471 7) (fun v475 => pLoad w0 1 v475 s473 (fun g476 => AC Try.prog w0 n_impl_below [vget l471 0, g476 0] s473 (fun v477 s478 => AC Try.prog w0 n_p_impl_Tree_kid [vget l471 1, g476 0] s478 (fun v479 s480 => AC Try.prog w0 n_p_impl_Tree_kid [vget l471 2, g476 0] s480 (fun v481 s482 => AC Try.prog w0 n_impl_covers [v477, v479, v481, vget l471 3] s482 (fun v483 s484 => pUn UnOp.not v483 (fun v485 => pIf v485 (K472 AX.ret [vget l471 0, vget l471 1, vget l471 2, vget l471 3, Value.bool false, vget l471 5, vget l471 6, vget l471 7] s484) (pBin Try.prog 3 BinOp.add (vget l471 7) (Value.int IntKind.i64 1) (fun v486 => K472 AX.normal [vget l471 0, vget l471 1, vget l471 2, vget l471 3, vget l471 4, vget l471 5, vget l471 6, v486] s484)))))))))) (K472 (AX.exit 0) [vget l471 0, vget l471 1, vget l471 2, vget l471 3, vget l471 4, vget l471 5, vget l471 6, vget l471 7] s473))) [a0, a1, Value.pointer (Option.some (Addr.mk n417 0 Option.none)), a3, Value.bool false, v468, v470, Value.int IntKind.i64 0] s469 (fun x487 l488 s489 => match x487 with | .normal => R (Value.bool true) s489 | .ret => R (vget l488 4) s489 | .exit i490 => (match Nat.beq i490 0 with | true => R (Value.bool true) s489 | false => False))))) (AC Try.prog w0 n_impl_either [a1, a2] s418 (fun v491 s492 => pLen v491 (fun v493 => pLoop (fun l494 K495 s496 => pBin Try.prog 3 BinOp.lss (vget l494 7) (vget l494 6) (fun v497 => pIf v497 (pIndexAddr 1 (vget l494 5) (vget l494 7) (fun v498 => pLoad w0 1 v498 s496 (fun g499 => AC Try.prog w0 n_impl_below [vget l494 0, g499 0] s496 (fun v500 s501 => AC Try.prog w0 n_p_impl_Tree_kid [vget l494 1, g499 0] s501 (fun v502 s503 => AC Try.prog w0 n_p_impl_Tree_kid [vget l494 2, g499 0] s503 (fun v504 s505 => AC Try.prog w0 n_impl_covers [v500, v502, v504, vget l494 3] s505 (fun v506 s507 => pUn UnOp.not v506 (fun v508 => pIf v508 (K495 AX.ret [vget l494 0, vget l494 1, vget l494 2, vget l494 3, Value.bool false, vget l494 5, vget l494 6, vget l494 7] s507) (pBin Try.prog 3 BinOp.add (vget l494 7) (Value.int IntKind.i64 1) (fun v509 => K495 AX.normal [vget l494 0, vget l494 1, vget l494 2, vget l494 3, vget l494 4, vget l494 5, vget l494 6, v509] s507)))))))))) (K495 (AX.exit 0) [vget l494 0, vget l494 1, vget l494 2, vget l494 3, vget l494 4, vget l494 5, vget l494 6, vget l494 7] s496))) [a0, a1, a2, a3, Value.bool false, v491, v493, Value.int IntKind.i64 0] s492 (fun x510 l511 s512 => match x510 with | .normal => R (Value.bool true) s512 | .ret => R (vget l511 4) s512 | .exit i513 => (match Nat.beq i513 0 with | true => R (Value.bool true) s512 | false => False)))))))))))))) (pVal true 5 (Value.agg (⟨[Value.bool false, Value.int IntKind.i64 0, Value.string ({ data := #[] }), Value.slice Option.none 0 0, Value.slice Option.none 0 0]⟩)) (pNew w0 26 ([Value.bool false, Value.int IntKind.i64 0, Value.string ({ data := #[] }), Value.slice Option.none 0 0, Value.slice Option.none 0 0]) σ (fun n514 s515 => pBin Try.prog 69 BinOp.eql a1 (Value.pointer Option.none) (fun v516 => pIf v516 (pBin Try.prog 69 BinOp.eql a2 (Value.pointer Option.none) (fun v517 => pIf v517 (AC Try.prog w0 n_impl_either [Value.pointer (Option.some (Addr.mk n514 0 Option.none)), Value.pointer (Option.some (Addr.mk n514 0 Option.none))] s515 (fun v518 s519 => pLen v518 (fun v520 => pLoop (fun l521 K522 s523 => pBin Try.prog 3 BinOp.lss (vget l521 7) (vget l521 6) (fun v524 => pIf v524 (pIndexAddr 1 (vget l521 5) (vget l521 7) (fun v525 => pLoad w0 1 v525 s523 (fun g526 => AC Try.prog w0 n_impl_below [vget l521 0, g526 0] s523 (fun v527 s528 => AC Try.prog w0 n_p_impl_Tree_kid [vget l521 1, g526 0] s528 (fun v529 s530 => AC Try.prog w0 n_p_impl_Tree_kid [vget l521 2, g526 0] s530 (fun v531 s532 => AC Try.prog w0 n_impl_covers [v527, v529, v531, vget l521 3] s532 (fun v533 s534 => pUn UnOp.not v533 (fun v535 => pIf v535 (K522 AX.ret [vget l521 0, vget l521 1, vget l521 2, vget l521 3, Value.bool false, vget l521 5, vget l521 6, vget l521 7] s534) (pBin Try.prog 3 BinOp.add (vget l521 7) (Value.int IntKind.i64 1) (fun v536 => K522 AX.normal [vget l521 0, vget l521 1, vget l521 2, vget l521 3, vget l521 4, vget l521 5, vget l521 6, v536] s534)))))))))) (K522 (AX.exit 0) [vget l521 0, vget l521 1, vget l521 2, vget l521 3, vget l521 4, vget l521 5, vget l521 6, vget l521 7] s523))) [a0, Value.pointer (Option.some (Addr.mk n514 0 Option.none)), Value.pointer (Option.some (Addr.mk n514 0 Option.none)), a3, Value.bool false, v518, v520, Value.int IntKind.i64 0] s519 (fun x537 l538 s539 => match x537 with | .normal => R (Value.bool true) s539 | .ret => R (vget l538 4) s539 | .exit i540 => (match Nat.beq i540 0 with | true => R (Value.bool true) s539 | false => False))))) (AC Try.prog w0 n_impl_either [Value.pointer (Option.some (Addr.mk n514 0 Option.none)), a2] s515 (fun v541 s542 => pLen v541 (fun v543 => pLoop (fun l544 K545 s546 => pBin Try.prog 3 BinOp.lss (vget l544 7) (vget l544 6) (fun v547 => pIf v547 (pIndexAddr 1 (vget l544 5) (vget l544 7) (fun v548 => pLoad w0 1 v548 s546 (fun g549 => AC Try.prog w0 n_impl_below [vget l544 0, g549 0] s546 (fun v550 s551 => AC Try.prog w0 n_p_impl_Tree_kid [vget l544 1, g549 0] s551 (fun v552 s553 => AC Try.prog w0 n_p_impl_Tree_kid [vget l544 2, g549 0] s553 (fun v554 s555 => AC Try.prog w0 n_impl_covers [v550, v552, v554, vget l544 3] s555 (fun v556 s557 => pUn UnOp.not v556 (fun v558 => pIf v558 (K545 AX.ret [vget l544 0, vget l544 1, vget l544 2, vget l544 3, Value.bool false, vget l544 5, vget l544 6, vget l544 7] s557) (pBin Try.prog 3 BinOp.add (vget l544 7) (Value.int IntKind.i64 1) (fun v559 => K545 AX.normal [vget l544 0, vget l544 1, vget l544 2, vget l544 3, vget l544 4, vget l544 5, vget l544 6, v559] s557)))))))))) (K545 (AX.exit 0) [vget l544 0, vget l544 1, vget l544 2, vget l544 3, vget l544 4, vget l544 5, vget l544 6, vget l544 7] s546))) [a0, Value.pointer (Option.some (Addr.mk n514 0 Option.none)), a2, a3, Value.bool false, v541, v543, Value.int IntKind.i64 0] s542 (fun x560 l561 s562 => match x560 with | .normal => R (Value.bool true) s562 | .ret => R (vget l561 4) s562 | .exit i563 => (match Nat.beq i563 0 with | true => R (Value.bool true) s562 | false => False))))))) (pBin Try.prog 69 BinOp.eql a2 (Value.pointer Option.none) (fun v564 => pIf v564 (AC Try.prog w0 n_impl_either [a1, Value.pointer (Option.some (Addr.mk n514 0 Option.none))] s515 (fun v565 s566 => pLen v565 (fun v567 => pLoop (fun l568 K569 s570 => pBin Try.prog 3 BinOp.lss (vget l568 7) (vget l568 6) (fun v571 => pIf v571 (pIndexAddr 1 (vget l568 5) (vget l568 7) (fun v572 => pLoad w0 1 v572 s570 (fun g573 => AC Try.prog w0 n_impl_below [vget l568 0, g573 0] s570 (fun v574 s575 => AC Try.prog w0 n_p_impl_Tree_kid [vget l568 1, g573 0] s575 (fun v576 s577 => AC Try.prog w0 n_p_impl_Tree_kid [vget l568 2, g573 0] s577 (fun v578 s579 => AC Try.prog w0 n_impl_covers [v574, v576, v578, vget l568 3] s579 (fun v580 s581 => pUn UnOp.not v580 (fun v582 => pIf v582 (K569 AX.ret [vget l568 0, vget l568 1, vget l568 2, vget l568 3, Value.bool false, vget l568 5, vget l568 6, vget l568 7] s581) (pBin Try.prog 3 BinOp.add (vget l568 7) (Value.int IntKind.i64 1) (fun v583 => K569 AX.normal [vget l568 0, vget l568 1, vget l568 2, vget l568 3, vget l568 4, vget l568 5, vget l568 6, v583] s581)))))))))) (K569 (AX.exit 0) [vget l568 0, vget l568 1, vget l568 2, vget l568 3, vget l568 4, vget l568 5, vget l568 6, vget l568 7] s570))) [a0, a1, Value.pointer (Option.some (Addr.mk n514 0 Option.none)), a3, Value.bool false, v565, v567, Value.int IntKind.i64 0] s566 (fun x584 l585 s586 => match x584 with | .normal => R (Value.bool true) s586 | .ret => R (vget l585 4) s586 | .exit i587 => (match Nat.beq i587 0 with | true => R (Value.bool true) s586 | false => False))))) (AC Try.prog w0 n_impl_either [a1, a2] s515 (fun v588 s589 => pLen v588 (fun v590 => pLoop (fun l591 K592 s593 => pBin Try.prog 3 BinOp.lss (vget l591 7) (vget l591 6) (fun v594 => pIf v594 (pIndexAddr 1 (vget l591 5) (vget l591 7) (fun v595 => pLoad w0 1 v595 s593 (fun g596 => AC Try.prog w0 n_impl_below [vget l591 0, g596 0] s593 (fun v597 s598 => AC Try.prog w0 n_p_impl_Tree_kid [vget l591 1, g596 0] s598 (fun v599 s600 => AC Try.prog w0 n_p_impl_Tree_kid [vget l591 2, g596 0] s600 (fun v601 s602 => AC Try.prog w0 n_impl_covers [v597, v599, v601, vget l591 3] s602 (fun v603 s604 => pUn UnOp.not v603 (fun v605 => pIf v605 (K592 AX.ret [vget l591 0, vget l591 1, vget l591 2, vget l591 3, Value.bool false, vget l591 5, vget l591 6, vget l591 7] s604) (pBin Try.prog 3 BinOp.add (vget l591 7) (Value.int IntKind.i64 1) (fun v606 => K592 AX.normal [vget l591 0, vget l591 1, vget l591 2, vget l591 3, vget l591 4, vget l591 5, vget l591 6, v606] s604)))))))))) (K592 (AX.exit 0) [vget l591 0, vget l591 1, vget l591 2, vget l591 3, vget l591 4, vget l591 5, vget l591 6, vget l591 7] s593))) [a0, a1, a2, a3, Value.bool false, v588, v590, Value.int IntKind.i64 0] s589 (fun x607 l608 s609 => match x607 with | .normal => R (Value.bool true) s609 | .ret => R (vget l608 4) s609 | .exit i610 => (match Nat.beq i610 0 with | true => R (Value.bool true) s609 | false => False))))))))))))))))))))) (pUn UnOp.not (Value.bool false) (fun v611 => pIf v611 (AC Try.prog w0 n_impl_marked [a3, a0] σ (fun v612 s613 => pUn UnOp.not v612 (fun v614 => pIf v614 (R (Value.bool false) s613) (pVal true 5 (Value.agg (⟨[Value.bool false, Value.int IntKind.i64 0, Value.string ({ data := #[] }), Value.slice Option.none 0 0, Value.slice Option.none 0 0]⟩)) (pNew w0 26 ([Value.bool false, Value.int IntKind.i64 0, Value.string ({ data := #[] }), Value.slice Option.none 0 0, Value.slice Option.none 0 0]) s613 (fun n615 s616 => pBin Try.prog 69 BinOp.eql a1 (Value.pointer Option.none) (fun v617 => pIf v617 (pBin Try.prog 69 BinOp.eql a2 (Value.pointer Option.none) (fun v618 => pIf v618 (AC Try.prog w0 n_impl_either [Value.pointer (Option.some (Addr.mk n615 0 Option.none)), Value.pointer (Option.some (Addr.mk n615 0 Option.none))] s616 (fun v619 s620 => pLen v619 (fun v621 => pLoop (fun l622 K623 s624 => pBin Try.prog 3 BinOp.lss (vget l622 7) (vget l622 6) (fun v625 => pIf v625 (pIndexAddr 1 (vget l622 5) (vget l622 7) (fun v626 => pLoad w0 1 v626 s624 (fun g627 => AC Try.prog w0 n_impl_below [vget l622 0, g627 0] s624 (fun v628 s629 => AC Try.prog w0 n_p_impl_Tree_kid [vget l622 1, g627 0] s629 (fun v630 s631 => AC Try.prog w0 n_p_impl_Tree_kid [vget l622 2, g627 0] s631 (fun v632 s633 => AC Try.prog w0 n_impl_covers [v628, v630, v632, vget l622 3] s633 (fun v634 s635 => pUn UnOp.not v634 (fun v636 => pIf v636 (K623 AX.ret [vget l622 0, vget l622 1, vget l622 2, vget l622 3, Value.bool false, vget l622 5, vget l622 6, vget l622 7] s635) (pBin Try.prog 3 BinOp.add (vget l622 7) (Value.int IntKind.i64 1) (fun v637 => K623 AX.normal [vget l622 0, vget l622 1, vget l622 2, vget l622 3, vget l622 4, vget l622 5, vget l622 6, v637] s635)))))))))) (K623 (AX.exit 0) [vget l622 0, vget l622 1, vget l622 2, vget l622 3, vget l622 4, vget l622 5, vget l622 6, vget l622 7] s624))) [a0, Value.pointer (Option.some (Addr.mk n615 0 Option.none)), Value.pointer (Option.some (Addr.mk n615 0 Option.none)), a3, Value.bool false, v619, v621, Value.int IntKind.i64 0] s620 (fun x638 l639 s640 => match x638 with | .normal => R (Value.bool true) s640 | .ret => R (vget l639 4) s640 | .exit i641 => (match Nat.beq i641 0 with | true => R (Value.bool true) s640 | false => False))))) (AC Try.prog w0 n_impl_either [Value.pointer (Option.some (Addr.mk n615 0 Option.none)), a2] s616 (fun v642 s643 => pLen v642 (fun v644 => pLoop (fun l645 K646 s647 => pBin Try.prog 3 BinOp.lss (vget l645 7) (vget l645 6) (fun v648 => pIf v648 (pIndexAddr 1 (vget l645 5) (vget l645 7) (fun v649 => pLoad w0 1 v649 s647 (fun g650 => AC Try.prog w0 n_impl_below [vget l645 0, g650 0] s647 (fun v651 s652 => AC Try.prog w0 n_p_impl_Tree_kid [vget l645 1, g650 0] s652 (fun v653 s654 => AC Try.prog w0 n_p_impl_Tree_kid [vget l645 2, g650 0] s654 (fun v655 s656 => AC Try.prog w0 n_impl_covers [v651, v653, v655, vget l645 3] s656 (fun v657 s658 => pUn UnOp.not v657 (fun v659 => pIf v659 (K646 AX.ret [vget l645 0, vget l645 1, vget l645 2, vget l645 3, Value.bool false, vget l645 5, vget l645 6, vget l645 7] s658) (pBin Try.prog 3 BinOp.add (vget l645 7) (Value.int IntKind.i64 1) (fun v660 => K646 AX.normal [vget l645 0, vget l645 1, vget l645 2, vget l645 3, vget l645 4, vget l645 5, vget l645 6, v660] s658)))))))))) (K646 (AX.exit 0) [vget l645 0, vget l645 1, vget l645 2, vget l645 3, vget l645 4, vget l645 5, vget l645 6, vget l645 7] s647))) [a0, Value.pointer (Option.some (Addr.mk n615 0 Option.none)), a2, a3, Value.bool false, v642, v644, Value.int IntKind.i64 0] s643 (fun x661 l662 s663 => match x661 with | .normal => R (Value.bool true) s663 | .ret => R (vget l662 4) s663 | .exit i664 => (match Nat.beq i664 0 with | true => R (Value.bool true) s663 | false => False))))))) (pBin Try.prog 69 BinOp.eql a2 (Value.pointer Option.none) (fun v665 => pIf v665 (AC Try.prog w0 n_impl_either [a1, Value.pointer (Option.some (Addr.mk n615 0 Option.none))] s616 (fun v666 s667 => pLen v666 (fun v668 => pLoop (fun l669 K670 s671 => pBin Try.prog 3 BinOp.lss (vget l669 7) (vget l669 6) (fun v672 => pIf v672 (pIndexAddr 1 (vget l669 5) (vget l669 7) (fun v673 => pLoad w0 1 v673 s671 (fun g674 => AC Try.prog w0 n_impl_below [vget l669 0, g674 0] s671 (fun v675 s676 => AC Try.prog w0 n_p_impl_Tree_kid [vget l669 1, g674 0] s676 (fun v677 s678 => AC Try.prog w0 n_p_impl_Tree_kid [vget l669 2, g674 0] s678 (fun v679 s680 => AC Try.prog w0 n_impl_covers [v675, v677, v679, vget l669 3] s680 (fun v681 s682 => pUn UnOp.not v681 (fun v683 => pIf v683 (K670 AX.ret [vget l669 0, vget l669 1, vget l669 2, vget l669 3, Value.bool false, vget l669 5, vget l669 6, vget l669 7] s682) (pBin Try.prog 3 BinOp.add (vget l669 7) (Value.int IntKind.i64 1) (fun v684 => K670 AX.normal [vget l669 0, vget l669 1, vget l669 2, vget l669 3, vget l669 4, vget l669 5, vget l669 6, v684] s682)))))))))) (K670 (AX.exit 0) [vget l669 0, vget l669 1, vget l669 2, vget l669 3, vget l669 4, vget l669 5, vget l669 6, vget l669 7] s671))) [a0, a1, Value.pointer (Option.some (Addr.mk n615 0 Option.none)), a3, Value.bool false, v666, v668, Value.int IntKind.i64 0] s667 (fun x685 l686 s687 => match x685 with | .normal => R (Value.bool true) s687 | .ret => R (vget l686 4) s687 | .exit i688 => (match Nat.beq i688 0 with | true => R (Value.bool true) s687 | false => False))))) (AC Try.prog w0 n_impl_either [a1, a2] s616 (fun v689 s690 => pLen v689 (fun v691 => pLoop (fun l692 K693 s694 => pBin Try.prog 3 BinOp.lss (vget l692 7) (vget l692 6) (fun v695 => pIf v695 (pIndexAddr 1 (vget l692 5) (vget l692 7) (fun v696 => pLoad w0 1 v696 s694 (fun g697 => AC Try.prog w0 n_impl_below [vget l692 0, g697 0] s694 (fun v698 s699 => AC Try.prog w0 n_p_impl_Tree_kid [vget l692 1, g697 0] s699 (fun v700 s701 => AC Try.prog w0 n_p_impl_Tree_kid [vget l692 2, g697 0] s701 (fun v702 s703 => AC Try.prog w0 n_impl_covers [v698, v700, v702, vget l692 3] s703 (fun v704 s705 => pUn UnOp.not v704 (fun v706 => pIf v706 (K693 AX.ret [vget l692 0, vget l692 1, vget l692 2, vget l692 3, Value.bool false, vget l692 5, vget l692 6, vget l692 7] s705) (pBin Try.prog 3 BinOp.add (vget l692 7) (Value.int IntKind.i64 1) (fun v707 => K693 AX.normal [vget l692 0, vget l692 1, vget l692 2, vget l692 3, vget l692 4, vget l692 5, vget l692 6, v707] s705)))))))))) (K693 (AX.exit 0) [vget l692 0, vget l692 1, vget l692 2, vget l692 3, vget l692 4, vget l692 5, vget l692 6, vget l692 7] s694))) [a0, a1, a2, a3, Value.bool false, v689, v691, Value.int IntKind.i64 0] s690 (fun x708 l709 s710 => match x708 with | .normal => R (Value.bool true) s710 | .ret => R (vget l709 4) s710 | .exit i711 => (match Nat.beq i711 0 with | true => R (Value.bool true) s710 | false => False)))))))))))))) (pVal true 5 (Value.agg (⟨[Value.bool false, Value.int IntKind.i64 0, Value.string ({ data := #[] }), Value.slice Option.none 0 0, Value.slice Option.none 0 0]⟩)) (pNew w0 26 ([Value.bool false, Value.int IntKind.i64 0, Value.string ({ data := #[] }), Value.slice Option.none 0 0, Value.slice Option.none 0 0]) σ (fun n712 s713 => pBin Try.prog 69 BinOp.eql a1 (Value.pointer Option.none) (fun v714 => pIf v714 (pBin Try.prog 69 BinOp.eql a2 (Value.pointer Option.none) (fun v715 => pIf v715 (AC Try.prog w0 n_impl_either [Value.pointer (Option.some (Addr.mk n712 0 Option.none)), Value.pointer (Option.some (Addr.mk n712 0 Option.none))] s713 (fun v716 s717 => pLen v716 (fun v718 => pLoop (fun l719 K720 s721 => pBin Try.prog 3 BinOp.lss (vget l719 7) (vget l719 6) (fun v722 => pIf v722 (pIndexAddr 1 (vget l719 5) (vget l719 7) (fun v723 => pLoad w0 1 v723 s721 (fun g724 => AC Try.prog w0 n_impl_below [vget l719 0, g724 0] s721 (fun v725 s726 => AC Try.prog w0 n_p_impl_Tree_kid [vget l719 1, g724 0] s726 (fun v727 s728 => AC Try.prog w0 n_p_impl_Tree_kid [vget l719 2, g724 0] s728 (fun v729 s730 => AC Try.prog w0 n_impl_covers [v725, v727, v729, vget l719 3] s730 (fun v731 s732 => pUn UnOp.not v731 (fun v733 => pIf v733 (K720 AX.ret [vget l719 0, vget l719 1, vget l719 2, vget l719 3, Value.bool false, vget l719 5, vget l719 6, vget l719 7] s732) (pBin Try.prog 3 BinOp.add (vget l719 7) (Value.int IntKind.i64 1) (fun v734 => K720 AX.normal [vget l719 0, vget l719 1, vget l719 2, vget l719 3, vget l719 4, vget l719 5, vget l719 6, v734] s732)))))))))) (K720 (AX.exit 0) [vget l719 0, vget l719 1, vget l719 2, vget l719 3, vget l719 4, vget l719 5, vget l719 6, vget l719 7] s721))) [a0, Value.pointer (Option.some (Addr.mk n712 0 Option.none)), Value.pointer (Option.some (Addr.mk n712 0 Option.none)), a3, Value.bool false, v716, v718, Value.int IntKind.i64 0] s717 (fun x735 l736 s737 => match x735 with | .normal => R (Value.bool true) s737 | .ret => R (vget l736 4) s737 | .exit i738 => (match Nat.beq i738 0 with | true => R (Value.bool true) s737 | false => False))))) (AC Try.prog w0 n_impl_either [Value.pointer (Option.some (Addr.mk n712 0 Option.none)), a2] s713 (fun v739 s740 => pLen v739 (fun v741 => pLoop (fun l742 K743 s744 => pBin Try.prog 3 BinOp.lss (vget l742 7) (vget l742 6) (fun v745 => pIf v745 (pIndexAddr 1 (vget l742 5) (vget l742 7) (fun v746 => pLoad w0 1 v746 s744 (fun g747 => AC Try.prog w0 n_impl_below [vget l742 0, g747 0] s744 (fun v748 s749 => AC Try.prog w0 n_p_impl_Tree_kid [vget l742 1, g747 0] s749 (fun v750 s751 => AC Try.prog w0 n_p_impl_Tree_kid [vget l742 2, g747 0] s751 (fun v752 s753 => AC Try.prog w0 n_impl_covers [v748, v750, v752, vget l742 3] s753 (fun v754 s755 => pUn UnOp.not v754 (fun v756 => pIf v756 (K743 AX.ret [vget l742 0, vget l742 1, vget l742 2, vget l742 3, Value.bool false, vget l742 5, vget l742 6, vget l742 7] s755) (pBin Try.prog 3 BinOp.add (vget l742 7) (Value.int IntKind.i64 1) (fun v757 => K743 AX.normal [vget l742 0, vget l742 1, vget l742 2, vget l742 3, vget l742 4, vget l742 5, vget l742 6, v757] s755)))))))))) (K743 (AX.exit 0) [vget l742 0, vget l742 1, vget l742 2, vget l742 3, vget l742 4, vget l742 5, vget l742 6, vget l742 7] s744))) [a0, Value.pointer (Option.some (Addr.mk n712 0 Option.none)), a2, a3, Value.bool false, v739, v741, Value.int IntKind.i64 0] s740 (fun x758 l759 s760 => match x758 with | .normal => R (Value.bool true) s760 | .ret => R (vget l759 4) s760 | .exit i761 => (match Nat.beq i761 0 with | true => R (Value.bool true) s760 | false => False))))))) (pBin Try.prog 69 BinOp.eql a2 (Value.pointer Option.none) (fun v762 => pIf v762 (AC Try.prog w0 n_impl_either [a1, Value.pointer (Option.some (Addr.mk n712 0 Option.none))] s713 (fun v763 s764 => pLen v763 (fun v765 => pLoop (fun l766 K767 s768 => pBin Try.prog 3 BinOp.lss (vget l766 7) (vget l766 6) (fun v769 => pIf v769 (pIndexAddr 1 (vget l766 5) (vget l766 7) (fun v770 => pLoad w0 1 v770 s768 (fun g771 => AC Try.prog w0 n_impl_below [vget l766 0, g771 0] s768 (fun v772 s773 => AC Try.prog w0 n_p_impl_Tree_kid [vget l766 1, g771 0] s773 (fun v774 s775 => AC Try.prog w0 n_p_impl_Tree_kid [vget l766 2, g771 0] s775 (fun v776 s777 => AC Try.prog w0 n_impl_covers [v772, v774, v776, vget l766 3] s777 (fun v778 s779 => pUn UnOp.not v778 (fun v780 => pIf v780 (K767 AX.ret [vget l766 0, vget l766 1, vget l766 2, vget l766 3, Value.bool false, vget l766 5, vget l766 6, vget l766 7] s779) (pBin Try.prog 3 BinOp.add (vget l766 7) (Value.int IntKind.i64 1) (fun v781 => K767 AX.normal [vget l766 0, vget l766 1, vget l766 2, vget l766 3, vget l766 4, vget l766 5, vget l766 6, v781] s779)))))))))) (K767 (AX.exit 0) [vget l766 0, vget l766 1, vget l766 2, vget l766 3, vget l766 4, vget l766 5, vget l766 6, vget l766 7] s768))) [a0, a1, Value.pointer (Option.some (Addr.mk n712 0 Option.none)), a3, Value.bool false, v763, v765, Value.int IntKind.i64 0] s764 (fun x782 l783 s784 => match x782 with | .normal => R (Value.bool true) s784 | .ret => R (vget l783 4) s784 | .exit i785 => (match Nat.beq i785 0 with | true => R (Value.bool true) s784 | false => False))))) (AC Try.prog w0 n_impl_either [a1, a2] s713 (fun v786 s787 => pLen v786 (fun v788 => pLoop (fun l789 K790 s791 => pBin Try.prog 3 BinOp.lss (vget l789 7) (vget l789 6) (fun v792 => pIf v792 (pIndexAddr 1 (vget l789 5) (vget l789 7) (fun v793 => pLoad w0 1 v793 s791 (fun g794 => AC Try.prog w0 n_impl_below [vget l789 0, g794 0] s791 (fun v795 s796 => AC Try.prog w0 n_p_impl_Tree_kid [vget l789 1, g794 0] s796 (fun v797 s798 => AC Try.prog w0 n_p_impl_Tree_kid [vget l789 2, g794 0] s798 (fun v799 s800 => AC Try.prog w0 n_impl_covers [v795, v797, v799, vget l789 3] s800 (fun v801 s802 => pUn UnOp.not v801 (fun v803 => pIf v803 (K790 AX.ret [vget l789 0, vget l789 1, vget l789 2, vget l789 3, Value.bool false, vget l789 5, vget l789 6, vget l789 7] s802) (pBin Try.prog 3 BinOp.add (vget l789 7) (Value.int IntKind.i64 1) (fun v804 => K790 AX.normal [vget l789 0, vget l789 1, vget l789 2, vget l789 3, vget l789 4, vget l789 5, vget l789 6, v804] s802)))))))))) (K790 (AX.exit 0) [vget l789 0, vget l789 1, vget l789 2, vget l789 3, vget l789 4, vget l789 5, vget l789 6, vget l789 7] s791))) [a0, a1, a2, a3, Value.bool false, v786, v788, Value.int IntKind.i64 0] s787 (fun x805 l806 s807 => match x805 with | .normal => R (Value.bool true) s807 | .ret => R (vget l806 4) s807 | .exit i808 => (match Nat.beq i808 0 with | true => R (Value.bool true) s807 | false => False))))))))))))))) (pUn UnOp.not (Value.bool false) (fun v809 => pIf v809 (AC Try.prog w0 n_impl_marked [a3, a0] σ (fun v810 s811 => pUn UnOp.not v810 (fun v812 => pIf v812 (R (Value.bool false) s811) (pVal true 5 (Value.agg (⟨[Value.bool false, Value.int IntKind.i64 0, Value.string ({ data := #[] }), Value.slice Option.none 0 0, Value.slice Option.none 0 0]⟩)) (pNew w0 26 ([Value.bool false, Value.int IntKind.i64 0, Value.string ({ data := #[] }), Value.slice Option.none 0 0, Value.slice Option.none 0 0]) s811 (fun n813 s814 => pBin Try.prog 69 BinOp.eql a1 (Value.pointer Option.none) (fun v815 => pIf v815 (pBin Try.prog 69 BinOp.eql a2 (Value.pointer Option.none) (fun v816 => pIf v816 (AC Try.prog w0 n_impl_either [Value.pointer (Option.some (Addr.mk n813 0 Option.none)), Value.pointer (Option.some (Addr.mk n813 0 Option.none))] s814 (fun v817 s818 => pLen v817 (fun v819 => pLoop (fun l820 K821 s822 => pBin Try.prog 3 BinOp.lss (vget l820 7) (vget l820 6) (fun v823 => pIf v823 (pIndexAddr 1 (vget l820 5) (vget l820 7) (fun v824 => pLoad w0 1 v824 s822 (fun g825 => AC Try.prog w0 n_impl_below [vget l820 0, g825 0] s822 (fun v826 s827 => AC Try.prog w0 n_p_impl_Tree_kid [vget l820 1, g825 0] s827 (fun v828 s829 => AC Try.prog w0 n_p_impl_Tree_kid [vget l820 2, g825 0] s829 (fun v830 s831 => AC Try.prog w0 n_impl_covers [v826, v828, v830, vget l820 3] s831 (fun v832 s833 => pUn UnOp.not v832 (fun v834 => pIf v834 (K821 AX.ret [vget l820 0, vget l820 1, vget l820 2, vget l820 3, Value.bool false, vget l820 5, vget l820 6, vget l820 7] s833) (pBin Try.prog 3 BinOp.add (vget l820 7) (Value.int IntKind.i64 1) (fun v835 => K821 AX.normal [vget l820 0, vget l820 1, vget l820 2, vget l820 3, vget l820 4, vget l820 5, vget l820 6, v835] s833)))))))))) (K821 (AX.exit 0) [vget l820 0, vget l820 1, vget l820 2, vget l820 3, vget l820 4, vget l820 5, vget l820 6, vget l820 7] s822))) [a0, Value.pointer (Option.some (Addr.mk n813 0 Option.none)), Value.pointer (Option.some (Addr.mk n813 0 Option.none)), a3, Value.bool false, v817, v819, Value.int IntKind.i64 0] s818 (fun x836 l837 s838 => match x836 with | .normal => R (Value.bool true) s838 | .ret => R (vget l837 4) s838 | .exit i839 => (match Nat.beq i839 0 with | true => R (Value.bool true) s838 | false => False))))) (AC Try.prog w0 n_impl_either [Value.pointer (Option.some (Addr.mk n813 0 Option.none)), a2] s814 (fun v840 s841 => pLen v840 (fun v842 => pLoop (fun l843 K844 s845 => pBin Try.prog 3 BinOp.lss (vget l843 7) (vget l843 6) (fun v846 => pIf v846 (pIndexAddr 1 (vget l843 5) (vget l843 7) (fun v847 => pLoad w0 1 v847 s845 (fun g848 => AC Try.prog w0 n_impl_below [vget l843 0, g848 0] s845 (fun v849 s850 => AC Try.prog w0 n_p_impl_Tree_kid [vget l843 1, g848 0] s850 (fun v851 s852 => AC Try.prog w0 n_p_impl_Tree_kid [vget l843 2, g848 0] s852 (fun v853 s854 => AC Try.prog w0 n_impl_covers [v849, v851, v853, vget l843 3] s854 (fun v855 s856 => pUn UnOp.not v855 (fun v857 => pIf v857 (K844 AX.ret [vget l843 0, vget l843 1, vget l843 2, vget l843 3, Value.bool false, vget l843 5, vget l843 6, vget l843 7] s856) (pBin Try.prog 3 BinOp.add (vget l843 7) (Value.int IntKind.i64 1) (fun v858 => K844 AX.normal [vget l843 0, vget l843 1, vget l843 2, vget l843 3, vget l843 4, vget l843 5, vget l843 6, v858] s856)))))))))) (K844 (AX.exit 0) [vget l843 0, vget l843 1, vget l843 2, vget l843 3, vget l843 4, vget l843 5, vget l843 6, vget l843 7] s845))) [a0, Value.pointer (Option.some (Addr.mk n813 0 Option.none)), a2, a3, Value.bool false, v840, v842, Value.int IntKind.i64 0] s841 (fun x859 l860 s861 => match x859 with | .normal => R (Value.bool true) s861 | .ret => R (vget l860 4) s861 | .exit i862 => (match Nat.beq i862 0 with | true => R (Value.bool true) s861 | false => False))))))) (pBin Try.prog 69 BinOp.eql a2 (Value.pointer Option.none) (fun v863 => pIf v863 (AC Try.prog w0 n_impl_either [a1, Value.pointer (Option.some (Addr.mk n813 0 Option.none))] s814 (fun v864 s865 => pLen v864 (fun v866 => pLoop (fun l867 K868 s869 => pBin Try.prog 3 BinOp.lss (vget l867 7) (vget l867 6) (fun v870 => pIf v870 (pIndexAddr 1 (vget l867 5) (vget l867 7) (fun v871 => pLoad w0 1 v871 s869 (fun g872 => AC Try.prog w0 n_impl_below [vget l867 0, g872 0] s869 (fun v873 s874 => AC Try.prog w0 n_p_impl_Tree_kid [vget l867 1, g872 0] s874 (fun v875 s876 => AC Try.prog w0 n_p_impl_Tree_kid [vget l867 2, g872 0] s876 (fun v877 s878 => AC Try.prog w0 n_impl_covers [v873, v875, v877, vget l867 3] s878 (fun v879 s880 => pUn UnOp.not v879 (fun v881 => pIf v881 (K868 AX.ret [vget l867 0, vget l867 1, vget l867 2, vget l867 3, Value.bool false, vget l867 5, vget l867 6, vget l867 7] s880) (pBin Try.prog 3 BinOp.add (vget l867 7) (Value.int IntKind.i64 1) (fun v882 => K868 AX.normal [vget l867 0, vget l867 1, vget l867 2, vget l867 3, vget l867 4, vget l867 5, vget l867 6, v882] s880)))))))))) (K868 (AX.exit 0) [vget l867 0, vget l867 1, vget l867 2, vget l867 3, vget l867 4, vget l867 5, vget l867 6, vget l867 7] s869))) [a0, a1, Value.pointer (Option.some (Addr.mk n813 0 Option.none)), a3, Value.bool false, v864, v866, Value.int IntKind.i64 0] s865 (fun x883 l884 s885 => match x883 with | .normal => R (Value.bool true) s885 | .ret => R (vget l884 4) s885 | .exit i886 => (match Nat.beq i886 0 with | true => R (Value.bool true) s885 | false => False))))) (AC Try.prog w0 n_impl_either [a1, a2] s814 (fun v887 s888 => pLen v887 (fun v889 => pLoop (fun l890 K891 s892 => pBin Try.prog 3 BinOp.lss (vget l890 7) (vget l890 6) (fun v893 => pIf v893 (pIndexAddr 1 (vget l890 5) (vget l890 7) (fun v894 => pLoad w0 1 v894 s892 (fun g895 => AC Try.prog w0 n_impl_below [vget l890 0, g895 0] s892 (fun v896 s897 => AC Try.prog w0 n_p_impl_Tree_kid [vget l890 1, g895 0] s897 (fun v898 s899 => AC Try.prog w0 n_p_impl_Tree_kid [vget l890 2, g895 0] s899 (fun v900 s901 => AC Try.prog w0 n_impl_covers [v896, v898, v900, vget l890 3] s901 (fun v902 s903 => pUn UnOp.not v902 (fun v904 => pIf v904 (K891 AX.ret [vget l890 0, vget l890 1, vget l890 2, vget l890 3, Value.bool false, vget l890 5, vget l890 6, vget l890 7] s903) (pBin Try.prog 3 BinOp.add (vget l890 7) (Value.int IntKind.i64 1) (fun v905 => K891 AX.normal [vget l890 0, vget l890 1, vget l890 2, vget l890 3, vget l890 4, vget l890 5, vget l890 6, v905] s903)))))))))) (K891 (AX.exit 0) [vget l890 0, vget l890 1, vget l890 2, vget l890 3, vget l890 4, vget l890 5, vget l890 6, vget l890 7] s892))) [a0, a1, a2, a3, Value.bool false, v887, v889, Value.int IntKind.i64 0] s888 (fun x906 l907 s908 => match x906 with | .normal => R (Value.bool true) s908 | .ret => R (vget l907 4) s908 | .exit i909 => (match Nat.beq i909 0 with | true => R (Value.bool true) s908 | false => False)))))))))))))) (pVal true 5 (Value.agg (⟨[Value.bool false, Value.int IntKind.i64 0, Value.string ({ data := #[] }), Value.slice Option.none 0 0, Value.slice Option.none 0 0]⟩)) (pNew w0 26 ([Value.bool false, Value.int IntKind.i64 0, Value.string ({ data := #[] }), Value.slice Option.none 0 0, Value.slice Option.none 0 0]) σ (fun n910 s911 => pBin Try.prog 69 BinOp.eql a1 (Value.pointer Option.none) (fun v912 => pIf v912 (pBin Try.prog 69 BinOp.eql a2 (Value.pointer Option.none) (fun v913 => pIf v913 (AC Try.prog w0 n_impl_either [Value.pointer (Option.some (Addr.mk n910 0 Option.none)), Value.pointer (Option.some (Addr.mk n910 0 Option.none))] s911 (fun v914 s915 => pLen v914 (fun v916 => pLoop (fun l917 K918 s919 => pBin Try.prog 3 BinOp.lss (vget l917 7) (vget l917 6) (fun v920 => pIf v920 (pIndexAddr 1 (vget l917 5) (vget l917 7) (fun v921 => pLoad w0 1 v921 s919 (fun g922 => AC Try.prog w0 n_impl_below [vget l917 0, g922 0] s919 (fun v923 s924 => AC Try.prog w0 n_p_impl_Tree_kid [vget l917 1, g922 0] s924 (fun v925 s926 => AC Try.prog w0 n_p_impl_Tree_kid [vget l917 2, g922 0] s926 (fun v927 s928 => AC Try.prog w0 n_impl_covers [v923, v925, v927, vget l917 3] s928 (fun v929 s930 => pUn UnOp.not v929 (fun v931 => pIf v931 (K918 AX.ret [vget l917 0, vget l917 1, vget l917 2, vget l917 3, Value.bool false, vget l917 5, vget l917 6, vget l917 7] s930) (pBin Try.prog 3 BinOp.add (vget l917 7) (Value.int IntKind.i64 1) (fun v932 => K918 AX.normal [vget l917 0, vget l917 1, vget l917 2, vget l917 3, vget l917 4, vget l917 5, vget l917 6, v932] s930)))))))))) (K918 (AX.exit 0) [vget l917 0, vget l917 1, vget l917 2, vget l917 3, vget l917 4, vget l917 5, vget l917 6, vget l917 7] s919))) [a0, Value.pointer (Option.some (Addr.mk n910 0 Option.none)), Value.pointer (Option.some (Addr.mk n910 0 Option.none)), a3, Value.bool false, v914, v916, Value.int IntKind.i64 0] s915 (fun x933 l934 s935 => match x933 with | .normal => R (Value.bool true) s935 | .ret => R (vget l934 4) s935 | .exit i936 => (match Nat.beq i936 0 with | true => R (Value.bool true) s935 | false => False))))) (AC Try.prog w0 n_impl_either [Value.pointer (Option.some (Addr.mk n910 0 Option.none)), a2] s911 (fun v937 s938 => pLen v937 (fun v939 => pLoop (fun l940 K941 s942 => pBin Try.prog 3 BinOp.lss (vget l940 7) (vget l940 6) (fun v943 => pIf v943 (pIndexAddr 1 (vget l940 5) (vget l940 7) (fun v944 => pLoad w0 1 v944 s942 (fun g945 => AC Try.prog w0 n_impl_below [vget l940 0, g945 0] s942 (fun v946 s947 => AC Try.prog w0 n_p_impl_Tree_kid [vget l940 1, g945 0] s947 (fun v948 s949 => AC Try.prog w0 n_p_impl_Tree_kid [vget l940 2, g945 0] s949 (fun v950 s951 => AC Try.prog w0 n_impl_covers [v946, v948, v950, vget l940 3] s951 (fun v952 s953 => pUn UnOp.not v952 (fun v954 => pIf v954 (K941 AX.ret [vget l940 0, vget l940 1, vget l940 2, vget l940 3, Value.bool false, vget l940 5, vget l940 6, vget l940 7] s953) (pBin Try.prog 3 BinOp.add (vget l940 7) (Value.int IntKind.i64 1) (fun v955 => K941 AX.normal [vget l940 0, vget l940 1, vget l940 2, vget l940 3, vget l940 4, vget l940 5, vget l940 6, v955] s953)))))))))) (K941 (AX.exit 0) [vget l940 0, vget l940 1, vget l940 2, vget l940 3, vget l940 4, vget l940 5, vget l940 6, vget l940 7] s942))) [a0, Value.pointer (Option.some (Addr.mk n910 0 Option.none)), a2, a3, Value.bool false, v937, v939, Value.int IntKind.i64 0] s938 (fun x956 l957 s958 => match x956 with | .normal => R (Value.bool true) s958 | .ret => R (vget l957 4) s958 | .exit i959 => (match Nat.beq i959 0 with | true => R (Value.bool true) s958 | false => False))))))) (pBin Try.prog 69 BinOp.eql a2 (Value.pointer Option.none) (fun v960 => pIf v960 (AC Try.prog w0 n_impl_either [a1, Value.pointer (Option.some (Addr.mk n910 0 Option.none))] s911 (fun v961 s962 => pLen v961 (fun v963 => pLoop (fun l964 K965 s966 => pBin Try.prog 3 BinOp.lss (vget l964 7) (vget l964 6) (fun v967 => pIf v967 (pIndexAddr 1 (vget l964 5) (vget l964 7) (fun v968 => pLoad w0 1 v968 s966 (fun g969 => AC Try.prog w0 n_impl_below [vget l964 0, g969 0] s966 (fun v970 s971 => AC Try.prog w0 n_p_impl_Tree_kid [vget l964 1, g969 0] s971 (fun v972 s973 => AC Try.prog w0 n_p_impl_Tree_kid [vget l964 2, g969 0] s973 (fun v974 s975 => AC Try.prog w0 n_impl_covers [v970, v972, v974, vget l964 3] s975 (fun v976 s977 => pUn UnOp.not v976 (fun v978 => pIf v978 (K965 AX.ret [vget l964 0, vget l964 1, vget l964 2, vget l964 3, Value.bool false, vget l964 5, vget l964 6, vget l964 7] s977) (pBin Try.prog 3 BinOp.add (vget l964 7) (Value.int IntKind.i64 1) (fun v979 => K965 AX.normal [vget l964 0, vget l964 1, vget l964 2, vget l964 3, vget l964 4, vget l964 5, vget l964 6, v979] s977)))))))))) (K965 (AX.exit 0) [vget l964 0, vget l964 1, vget l964 2, vget l964 3, vget l964 4, vget l964 5, vget l964 6, vget l964 7] s966))) [a0, a1, Value.pointer (Option.some (Addr.mk n910 0 Option.none)), a3, Value.bool false, v961, v963, Value.int IntKind.i64 0] s962 (fun x980 l981 s982 => match x980 with | .normal => R (Value.bool true) s982 | .ret => R (vget l981 4) s982 | .exit i983 => (match Nat.beq i983 0 with | true => R (Value.bool true) s982 | false => False))))) (AC Try.prog w0 n_impl_either [a1, a2] s911 (fun v984 s985 => pLen v984 (fun v986 => pLoop (fun l987 K988 s989 => pBin Try.prog 3 BinOp.lss (vget l987 7) (vget l987 6) (fun v990 => pIf v990 (pIndexAddr 1 (vget l987 5) (vget l987 7) (fun v991 => pLoad w0 1 v991 s989 (fun g992 => AC Try.prog w0 n_impl_below [vget l987 0, g992 0] s989 (fun v993 s994 => AC Try.prog w0 n_p_impl_Tree_kid [vget l987 1, g992 0] s994 (fun v995 s996 => AC Try.prog w0 n_p_impl_Tree_kid [vget l987 2, g992 0] s996 (fun v997 s998 => AC Try.prog w0 n_impl_covers [v993, v995, v997, vget l987 3] s998 (fun v999 s1000 => pUn UnOp.not v999 (fun v1001 => pIf v1001 (K988 AX.ret [vget l987 0, vget l987 1, vget l987 2, vget l987 3, Value.bool false, vget l987 5, vget l987 6, vget l987 7] s1000) (pBin Try.prog 3 BinOp.add (vget l987 7) (Value.int IntKind.i64 1) (fun v1002 => K988 AX.normal [vget l987 0, vget l987 1, vget l987 2, vget l987 3, vget l987 4, vget l987 5, vget l987 6, v1002] s1000)))))))))) (K988 (AX.exit 0) [vget l987 0, vget l987 1, vget l987 2, vget l987 3, vget l987 4, vget l987 5, vget l987 6, vget l987 7] s989))) [a0, a1, a2, a3, Value.bool false, v984, v986, Value.int IntKind.i64 0] s985 (fun x1003 l1004 s1005 => match x1003 with | .normal => R (Value.bool true) s1005 | .ret => R (vget l1004 4) s1005 | .exit i1006 => (match Nat.beq i1006 0 with | true => R (Value.bool true) s1005 | false => False))))))))))))))
theorem vc_impl_covers_eq (w0 : World) (a0 a1 a2 a3 : Value) (σ : Vw) (R : Value → Vw → Prop) : vc_impl_covers w0 a0 a1 a2 a3 σ R = den Try.prog w0 kp_impl_covers esc_impl_covers (Try.f62.body.getD .skip) (entry Try.f62.ntmps [a0, a1, a2, a3]) σ (retK Try.prog Try.f62.results.toList R) := by kernel_rfl
theorem ac_impl_covers {w0 : World} {a0 a1 a2 a3 : Value} {σ : Vw} {R : Value → Vw → Prop} (h : vc_impl_covers w0 a0 a1 a2 a3 σ R) : AC Try.prog w0 n_impl_covers [a0, a1, a2, a3] σ R := by
  refine ac_rule (fn := Try.f62) (c := Try.f62.body.getD .skip) kp_impl_covers esc_impl_covers Try.func62 (by kernel_rfl) (by kernel_rfl) ?_
  rw [← vc_impl_covers_eq]
  exact h

/-- spec.l1Find -/
def kp_spec_l1Find : Nat → Keep
  | 2 => ⟨[1, 4, 5], [(2, 5)], [2], .done, []⟩
  | _ => ⟨[], [], [], .done, []⟩
def esc_spec_l1Find : Nat → Bool
  | _ => false
def vc_spec_l1Find (w0 : World) (a0 a1 : Value) (σ : Vw) (R : Value → Vw → Prop) : Prop :=
  pVal true 5 a0 (pLoop (fun l0 K1 s2 => pLen (vget l0 6) (fun v3 => pBin Try.prog 3 BinOp.lss (vget l0 2) v3 (fun v4 => pIf v4 (pIndexAddr 1 (vget l0 6) (vget l0 2) (fun v5 => pLoad w0 1 v5 s2 (fun g6 => pBin Try.prog 9 BinOp.eql (g6 0) (vget l0 0) (fun v7 => pIf v7 (K1 AX.ret [vget l0 0, vget l0 2, vget l0 2, vget l0 3, vget l0 4, vget l0 5, vget l0 6, vget l0 7] s2) (pBin Try.prog 3 BinOp.add (vget l0 2) (Value.int IntKind.i64 1) (fun v8 => K1 AX.normal [vget l0 0, vget l0 1, v8, vget l0 3, vget l0 4, vget l0 5, vget l0 6, vget l0 7] s2)))))) (K1 (AX.exit 0) [vget l0 0, vget l0 1, vget l0 2, vget l0 3, vget l0 4, vget l0 5, vget l0 6, vget l0 7] s2)))) [a1, Value.int IntKind.i64 0, Value.int IntKind.i64 0, cellOf a0 0, cellOf a0 1, cellOf a0 2, cellOf a0 3, cellOf a0 4] σ (fun x9 l10 s11 => match x9 with | .normal => R (Value.int IntKind.i64 (-1)) s11 | .ret => R (vget l10 1) s11 | .exit i12 => (match Nat.beq i12 0 with | true => R (Value.int IntKind.i64 (-1)) s11 | false => False)))
theorem vc_spec_l1Find_eq (w0 : World) (a0 a1 : Value) (σ : Vw) (R : Value → Vw → Prop) : vc_spec_l1Find w0 a0 a1 σ R = den Try.prog w0 kp_spec_l1Find esc_spec_l1Find (Try.f70.body.getD .skip) (entry Try.f70.ntmps [a0, a1]) σ (retK Try.prog Try.f70.results.toList R) := by kernel_rfl
theorem ac_spec_l1Find {w0 : World} {a0 a1 : Value} {σ : Vw} {R : Value → Vw → Prop} (h : vc_spec_l1Find w0 a0 a1 σ R) : AC Try.prog w0 n_spec_l1Find [a0, a1] σ R := by
  refine ac_rule (fn := Try.f70) (c := Try.f70.body.getD .skip) kp_spec_l1Find esc_spec_l1Find Try.func70 (by kernel_rfl) (by kernel_rfl) ?_
  rw [← vc_spec_l1Find_eq]
  exact h

/-- (impl.Tree).sound -/
def kp_impl_Tree_sound : Nat → Keep
  | 8 => ⟨[1, 4, 41, 42, 43], [(2, 5)], [2], .done, []⟩
  | _ => ⟨[], [], [], .done, []⟩
def esc_impl_Tree_sound : Nat → Bool
  | _ => false
def vc_impl_Tree_sound (w0 : World) (a0 a1 : Value) (σ : Vw) (R : Value → Vw → Prop) : Prop :=
  pVal true 5 a0 (AC Try.prog w0 n_impl_modeOk [cellOf a0 1] σ (fun v0 s1 => pUn UnOp.not v0 (fun v2 => pIf v2 (R (Value.bool false) s1) (pBin Try.prog 3 BinOp.gtr a1 (Value.int IntKind.i64 4) (fun v3 => pIf v3 (R (Value.bool false) s1) (pLen (cellOf a0 3) (fun v4 => pLen (cellOf a0 4) (fun v5 => pBin Try.prog 3 BinOp.neq v4 v5 (fun v6 => pIf v6 (R (Value.bool false) s1) (pUn UnOp.not (cellOf a0 0) (fun v7 => pIf v7 (pLenS (cellOf a0 2) (fun v8 => pBin Try.prog 3 BinOp.leq v8 (Value.int IntKind.i64 24) (fun v9 => pIf v9 (pLen (cellOf a0 3) (fun v10 => pBin Try.prog 3 BinOp.eql v10 (Value.int IntKind.i64 0) (fun v11 => R v11 s1))) (R (Value.bool false) s1)))) (pBin Try.prog 9 BinOp.neq (cellOf a0 2) (Value.string ({ data := #[] })) (fun v12 => pIf v12 (R (Value.bool false) s1) (pLen (cellOf a0 3) (fun v13 => pLoop (fun l14 K15 s16 => pBin Try.prog 3 BinOp.lss (vget l14 4) (vget l14 3) (fun v17 => pIf v17 (pIndexAddr 1 (vget l14 2) (vget l14 4) (fun v18 => pLoad w0 1 v18 s16 (fun g19 => AC Try.prog w0 n_impl_nameOk [g19 0] s16 (fun v20 s21 => pUn UnOp.not v20 (fun v22 => pIf v22 (K15 AX.ret [vget l14 0, Value.bool false, vget l14 2, vget l14 3, vget l14 4, vget l14 5, vget l14 6, vget l14 7, vget l14 8, vget l14 9] s21) (pBin Try.prog 3 BinOp.gtr (vget l14 4) (Value.int IntKind.i64 0) (fun v23 => pIf v23 (pBin Try.prog 3 BinOp.sub (vget l14 4) (Value.int IntKind.i64 1) (fun v24 => pIndexAddr 1 (vget l14 8) v24 (fun v25 => pLoad w0 1 v25 s21 (fun g26 => pBin Try.prog 9 BinOp.geq (g26 0) (g19 0) (fun v27 => pIf v27 (K15 AX.ret [vget l14 0, Value.bool false, vget l14 2, vget l14 3, vget l14 4, vget l14 5, vget l14 6, vget l14 7, vget l14 8, vget l14 9] s21) (pIndexAddr 5 (vget l14 9) (vget l14 4) (fun v28 => pLoad w0 5 v28 s21 (fun g29 => pBin Try.prog 3 BinOp.add (vget l14 0) (Value.int IntKind.i64 1) (fun v30 => AC Try.prog w0 n_impl_Tree_sound ([Value.agg (⟨[g29 0, g29 1, g29 2, g29 3, g29 4]⟩), v30]) s21 (fun v31 s32 => pUn UnOp.not v31 (fun v33 => pIf v33 (K15 AX.ret [vget l14 0, Value.bool false, vget l14 2, vget l14 3, vget l14 4, vget l14 5, vget l14 6, vget l14 7, vget l14 8, vget l14 9] s32) (pBin Try.prog 3 BinOp.add (vget l14 4) (Value.int IntKind.i64 1) (fun v34 => K15 AX.normal [vget l14 0, vget l14 1, vget l14 2, vget l14 3, v34, vget l14 5, vget l14 6, vget l14 7, vget l14 8, vget l14 9] s32))))))))))))) (pIndexAddr 5 (vget l14 9) (vget l14 4) (fun v35 => pLoad w0 5 v35 s21 (fun g36 => pBin Try.prog 3 BinOp.add (vget l14 0) (Value.int IntKind.i64 1) (fun v37 => AC Try.prog w0 n_impl_Tree_sound ([Value.agg (⟨[g36 0, g36 1, g36 2, g36 3, g36 4]⟩), v37]) s21 (fun v38 s39 => pUn UnOp.not v38 (fun v40 => pIf v40 (K15 AX.ret [vget l14 0, Value.bool false, vget l14 2, vget l14 3, vget l14 4, vget l14 5, vget l14 6, vget l14 7, vget l14 8, vget l14 9] s39) (pBin Try.prog 3 BinOp.add (vget l14 4) (Value.int IntKind.i64 1) (fun v41 => K15 AX.normal [vget l14 0, vget l14 1, vget l14 2, vget l14 3, v41, vget l14 5, vget l14 6, vget l14 7, vget l14 8, vget l14 9] s39))))))))))))))) (K15 (AX.exit 0) [vget l14 0, vget l14 1, vget l14 2, vget l14 3, vget l14 4, vget l14 5, vget l14 6, vget l14 7, vget l14 8, vget l14 9] s16))) [a1, Value.bool false, cellOf a0 3, v13, Value.int IntKind.i64 0, cellOf a0 0, cellOf a0 1, cellOf a0 2, cellOf a0 3, cellOf a0 4] s1 (fun x42 l43 s44 => match x42 with | .normal => R (Value.bool true) s44 | .ret => R (vget l43 1) s44 | .exit i45 => (match Nat.beq i45 0 with | true => R (Value.bool true) s44 | false => False)))))))))))))))))
theorem vc_impl_Tree_sound_eq (w0 : World) (a0 a1 : Value) (σ : Vw) (R : Value → Vw → Prop) : vc_impl_Tree_sound w0 a0 a1 σ R = den Try.prog w0 kp_impl_Tree_sound esc_impl_Tree_sound (Try.f71.body.getD .skip) (entry Try.f71.ntmps [a0, a1]) σ (retK Try.prog Try.f71.results.toList R) := by kernel_rfl
theorem ac_impl_Tree_sound {w0 : World} {a0 a1 : Value} {σ : Vw} {R : Value → Vw → Prop} (h : vc_impl_Tree_sound w0 a0 a1 σ R) : AC Try.prog w0 n_impl_Tree_sound [a0, a1] σ R := by
  refine ac_rule (fn := Try.f71) (c := Try.f71.body.getD .skip) kp_impl_Tree_sound esc_impl_Tree_sound Try.func71 (by kernel_rfl) (by kernel_rfl) ?_
  rw [← vc_impl_Tree_sound_eq]
  exact h

/-- (*impl.Tree).kid -/
def kp_p_impl_Tree_kid : Nat → Keep
  | _ => ⟨[], [], [], .done, []⟩
def esc_p_impl_Tree_kid : Nat → Bool
  | _ => false
def vc_p_impl_Tree_kid (w0 : World) (a0 a1 : Value) (σ : Vw) (R : Value → Vw → Prop) : Prop :=
  pNil a0 (pField 3 a0 (fun v0 => pLoad w0 1 v0 σ (fun g1 => AC Try.prog w0 n_slices_Index_string_string [g1 0, a1] σ (fun v2 s3 => pBin Try.prog 3 BinOp.lss v2 (Value.int IntKind.i64 0) (fun v4 => pIf v4 (R (Value.pointer Option.none) s3) (pNil a0 (pField 4 a0 (fun v5 => pLoad w0 1 v5 s3 (fun g6 => pLen (g6 0) (fun v7 => pBin Try.prog 3 BinOp.geq v2 v7 (fun v8 => pIf v8 (R (Value.pointer Option.none) s3) (pNil a0 (pField 4 a0 (fun v9 => pLoad w0 1 v9 s3 (fun g10 => pIndexAddr 5 (g10 0) v2 (fun v11 => R v11 s3))))))))))))))))
theorem vc_p_impl_Tree_kid_eq (w0 : World) (a0 a1 : Value) (σ : Vw) (R : Value → Vw → Prop) : vc_p_impl_Tree_kid w0 a0 a1 σ R = den Try.prog w0 kp_p_impl_Tree_kid esc_p_impl_Tree_kid (Try.f72.body.getD .skip) (entry Try.f72.ntmps [a0, a1]) σ (retK Try.prog Try.f72.results.toList R) := by kernel_rfl
theorem ac_p_impl_Tree_kid {w0 : World} {a0 a1 : Value} {σ : Vw} {R : Value → Vw → Prop} (h : vc_p_impl_Tree_kid w0 a0 a1 σ R) : AC Try.prog w0 n_p_impl_Tree_kid [a0, a1] σ R := by
  refine ac_rule (fn := Try.f72) (c := Try.f72.body.getD .skip) kp_p_impl_Tree_kid esc_p_impl_Tree_kid Try.func72 (by kernel_rfl) (by kernel_rfl) ?_
  rw [← vc_p_impl_Tree_kid_eq]
  exact h

/-- spec.l1Plain -/
def kp_spec_l1Plain : Nat → Keep
  | 6 => ⟨[2, 3], [(1, 5)], [1], .done, []⟩
  | 8 => ⟨[], [], [], .step 0 (.step 1 (.step 2 (.step 3 (.step 4 (.step 5 (.step 6 (.step 7 (.step 8 (.step 9 (.step 10 (.step 11 (.step 12 (.step 13 (.step 14 (.step 15 (.step 16 (.step 17 (.step 18 (.step 19 (.step 20 (.step 21 (.step 22 (.step 23 (.step 24 (.done))))))))))))))))))))))))), [(1, [0]), (3, [0, 1, 2]), (4, [0, 1, 2, 3]), (5, [0, 1, 2, 3, 4]), (6, [0, 1, 2, 3, 4, 5]), (7, [0, 1, 2, 3, 4, 5, 6]), (8, [0, 1, 2, 3, 4, 5, 6, 7]), (9, [0, 1, 2, 3, 4, 5, 6, 7, 8]), (10, [0, 1, 2, 3, 4, 5, 6, 7, 8, 9]), (11, [0, 1, 2, 3, 4, 5, 6, 7, 8, 9, 10]), (12, [0, 1, 2, 3, 4, 5, 6, 7, 8, 9, 10, 11]), (13, [0, 1, 2, 3, 4, 5, 6, 7, 8, 9, 10]), (14, [0, 1, 2, 3, 4, 5, 6, 7, 8, 9, 10, 13]), (15, [0, 1, 2, 3, 4, 5, 6, 7, 8, 9, 10, 11, 12, 13, 14]), (16, [0, 1, 2, 3, 4, 5, 6, 7, 8, 9, 10, 11, 12, 13, 14, 15]), (17, [0, 1, 2, 3, 4, 5, 6, 7, 8, 9, 10]), (18, [0, 1, 2, 3, 4, 5, 6, 7, 8, 9, 10, 17]), (19, [0, 1, 2, 3, 4, 5, 6, 7, 8, 9, 10]), (20, [0, 1, 2, 3, 4, 5, 6, 7, 8, 9, 10, 17, 18, 19]), (21, [0, 1, 2, 3, 4, 5, 6, 7, 8, 9, 10, 17, 18, 19, 20]), (22, [0, 1, 2, 3, 4, 5, 6, 7, 8, 9, 10, 11, 12, 13, 14, 15, 16, 17, 18, 19, 20, 21]), (23, [0, 1, 2, 3, 4, 5, 6, 7, 8, 9, 10, 11, 12, 13, 14, 15, 16, 17, 18, 19, 20, 21, 22]), (24, [0, 1, 2, 3, 4, 5, 6, 7, 8, 9, 10, 11, 12, 13, 14, 15, 16, 17, 18, 19, 20, 21, 22, 23])]⟩
  | _ => ⟨[], [], [], .done, []⟩
def esc_spec_l1Plain : Nat → Bool
  | _ => false
def vc_spec_l1Plain (w0 : World) (a0 : Value) (σ : Vw) (R : Value → Vw → Prop) : Prop :=
  pVal true 5 a0 (AC Try.prog w0 n_spec_l1In [cellOf a0 1, Value.int IntKind.i64 0, Value.int IntKind.i64 7] σ (fun v0 s1 => pUn UnOp.not v0 (fun v2 => pIf v2 (R (Value.bool false) s1) (pLen (cellOf a0 3) (fun v3 => pLen (cellOf a0 4) (fun v4 => pBin Try.prog 3 BinOp.neq v3 v4 (fun v5 => pIf v5 (R (Value.bool false) s1) (pUn UnOp.not (cellOf a0 0) (fun v6 => pIf v6 (pLenS (cellOf a0 2) (fun v7 => pBin Try.prog 3 BinOp.leq v7 (Value.int IntKind.i64 24) (fun v8 => pIf v8 (pLen (cellOf a0 3) (fun v9 => pBin Try.prog 3 BinOp.eql v9 (Value.int IntKind.i64 0) (fun v10 => R v10 s1))) (R (Value.bool false) s1)))) (pLoop (fun l11 K12 s13 => pLen (vget l11 5) (fun v14 => pBin Try.prog 3 BinOp.lss (vget l11 1) v14 (fun v15 => pIf v15 (pIndexAddr 1 (vget l11 5) (vget l11 1) (fun v16 => pLoad w0 1 v16 s13 (fun g17 => AC Try.prog w0 n_spec_l1NameOk [g17 0] s13 (fun v18 s19 => pUn UnOp.not v18 (fun v20 => pIf v20 (K12 AX.ret [Value.bool false, vget l11 1, vget l11 2, vget l11 3, vget l11 4, vget l11 5, vget l11 6] s19) (pBin Try.prog 3 BinOp.gtr (vget l11 1) (Value.int IntKind.i64 0) (fun v21 => pIf v21 (pBin Try.prog 3 BinOp.sub (vget l11 1) (Value.int IntKind.i64 1) (fun v22 => pIndexAddr 1 (vget l11 5) v22 (fun v23 => pLoad w0 1 v23 s19 (fun g24 => pIndexAddr 1 (vget l11 5) (vget l11 1) (fun v25 => pLoad w0 1 v25 s19 (fun g26 => pBin Try.prog 9 BinOp.geq (g24 0) (g26 0) (fun v27 => pIf v27 (K12 AX.ret [Value.bool false, vget l11 1, vget l11 2, vget l11 3, vget l11 4, vget l11 5, vget l11 6] s19) (pBin Try.prog 3 BinOp.add (vget l11 1) (Value.int IntKind.i64 1) (fun v28 => K12 AX.normal [vget l11 0, v28, vget l11 2, vget l11 3, vget l11 4, vget l11 5, vget l11 6] s19))))))))) (pBin Try.prog 3 BinOp.add (vget l11 1) (Value.int IntKind.i64 1) (fun v29 => K12 AX.normal [vget l11 0, v29, vget l11 2, vget l11 3, vget l11 4, vget l11 5, vget l11 6] s19))))))))) (K12 (AX.exit 0) [vget l11 0, vget l11 1, vget l11 2, vget l11 3, vget l11 4, vget l11 5, vget l11 6] s13)))) [Value.bool false, Value.int IntKind.i64 0, cellOf a0 0, cellOf a0 1, cellOf a0 2, cellOf a0 3, cellOf a0 4] s1 (fun x30 l31 s32 => match x30 with | .normal => pBin Try.prog 9 BinOp.eql (vget l31 4) (Value.string ({ data := #[] })) (fun v33 => R v33 s32) | .ret => R (vget l31 0) s32 | .exit i34 => (match Nat.beq i34 0 with | true => pBin Try.prog 9 BinOp.eql (vget l31 4) (Value.string ({ data := #[] })) (fun v35 => R v35 s32) | false => False))))))))))))
theorem vc_spec_l1Plain_eq (w0 : World) (a0 : Value) (σ : Vw) (R : Value → Vw → Prop) : vc_spec_l1Plain w0 a0 σ R = den Try.prog w0 kp_spec_l1Plain esc_spec_l1Plain (Try.f73.body.getD .skip) (entry Try.f73.ntmps [a0]) σ (retK Try.prog Try.f73.results.toList R) := by kernel_rfl
theorem ac_spec_l1Plain {w0 : World} {a0 : Value} {σ : Vw} {R : Value → Vw → Prop} (h : vc_spec_l1Plain w0 a0 σ R) : AC Try.prog w0 n_spec_l1Plain [a0] σ R := by
  refine ac_rule (fn := Try.f73) (c := Try.f73.body.getD .skip) kp_spec_l1Plain esc_spec_l1Plain Try.func73 (by kernel_rfl) (by kernel_rfl) ?_
  rw [← vc_spec_l1Plain_eq]
  exact h

/-- spec.l11MarkOk -/
def kp_spec_l11MarkOk : Nat → Keep
  | _ => ⟨[], [], [], .done, []⟩
def esc_spec_l11MarkOk : Nat → Bool
  | _ => false
def vc_spec_l11MarkOk (w0 : World) (a0 : Value) (σ : Vw) (R : Value → Vw → Prop) : Prop :=
  pVal true 2 a0 (pLen (cellOf a0 0) (fun v0 => pBin Try.prog 3 BinOp.eql v0 (Value.int IntKind.i64 0) (fun v1 => pIf v1 (R (cellOf a0 1) σ) (AC Try.prog w0 n_spec_l2PathOk [cellOf a0 0] σ (fun v2 s3 => R v2 s3)))))
theorem vc_spec_l11MarkOk_eq (w0 : World) (a0 : Value) (σ : Vw) (R : Value → Vw → Prop) : vc_spec_l11MarkOk w0 a0 σ R = den Try.prog w0 kp_spec_l11MarkOk esc_spec_l11MarkOk (Try.f74.body.getD .skip) (entry Try.f74.ntmps [a0]) σ (retK Try.prog Try.f74.results.toList R) := by kernel_rfl
theorem ac_spec_l11MarkOk {w0 : World} {a0 : Value} {σ : Vw} {R : Value → Vw → Prop} (h : vc_spec_l11MarkOk w0 a0 σ R) : AC Try.prog w0 n_spec_l11MarkOk [a0] σ R := by
  refine ac_rule (fn := Try.f74) (c := Try.f74.body.getD .skip) kp_spec_l11MarkOk esc_spec_l11MarkOk Try.func74 (by kernel_rfl) (by kernel_rfl) ?_
  rw [← vc_spec_l11MarkOk_eq]
  exact h

/-- spec.l11Less -/
def kp_spec_l11Less : Nat → Keep
  | 2 => ⟨[0, 1, 4, 5], [], [], .done, []⟩
  | 4 => ⟨[], [], [], .step 0 (.step 1 (.step 2 (.step 3 (.step 4 (.step 5 (.step 6 (.step 7 (.step 8 (.done))))))))), [(2, [0, 1]), (3, [0, 1, 2]), (6, [4, 5]), (7, [4, 5, 6]), (8, [0, 1, 2, 3, 4, 5, 6, 7])]⟩
  | 5 => ⟨[], [], [], .step 0 (.step 1 (.step 2 (.step 3 (.step 4 (.step 5 (.step 6 (.step 7 (.step 8 (.step 9 (.done)))))))))), [(2, [0, 1]), (3, [0, 1, 2]), (6, [4, 5]), (7, [4, 5, 6]), (8, [0, 1, 2, 3, 4, 5, 6, 7]), (9, [0, 1, 2, 3, 4, 5, 6, 7, 8])]⟩
  | _ => ⟨[], [], [], .done, []⟩
def esc_spec_l11Less : Nat → Bool
  | _ => false
def vc_spec_l11Less (w0 : World) (a0 a1 : Value) (σ : Vw) (R : Value → Vw → Prop) : Prop :=
  pLoop (fun l0 K1 s2 => pLen (vget l0 0) (fun v3 => pBin Try.prog 3 BinOp.lss (vget l0 3) v3 (fun v4 => pIf v4 (pLen (vget l0 1) (fun v5 => pBin Try.prog 3 BinOp.lss (vget l0 3) v5 (fun v6 => pIf v6 (pIndexAddr 1 (vget l0 0) (vget l0 3) (fun v7 => pLoad w0 1 v7 s2 (fun g8 => pIndexAddr 1 (vget l0 1) (vget l0 3) (fun v9 => pLoad w0 1 v9 s2 (fun g10 => pBin Try.prog 9 BinOp.neq (g8 0) (g10 0) (fun v11 => pIf v11 (pIndexAddr 1 (vget l0 0) (vget l0 3) (fun v12 => pLoad w0 1 v12 s2 (fun g13 => pIndexAddr 1 (vget l0 1) (vget l0 3) (fun v14 => pLoad w0 1 v14 s2 (fun g15 => pBin Try.prog 9 BinOp.lss (g13 0) (g15 0) (fun v16 => K1 AX.ret [vget l0 0, vget l0 1, v16, vget l0 3] s2)))))) (pBin Try.prog 3 BinOp.add (vget l0 3) (Value.int IntKind.i64 1) (fun v17 => K1 AX.normal [vget l0 0, vget l0 1, vget l0 2, v17] s2)))))))) (K1 (AX.exit 0) [vget l0 0, vget l0 1, vget l0 2, vget l0 3] s2)))) (K1 (AX.exit 0) [vget l0 0, vget l0 1, vget l0 2, vget l0 3] s2)))) [a0, a1, Value.bool false, Value.int IntKind.i64 0] σ (fun x18 l19 s20 => match x18 with | .normal => pLen (vget l19 0) (fun v21 => pLen (vget l19 1) (fun v22 => pBin Try.prog 3 BinOp.lss v21 v22 (fun v23 => R v23 s20))) | .ret => R (vget l19 2) s20 | .exit i24 => (match Nat.beq i24 0 with | true => pLen (vget l19 0) (fun v25 => pLen (vget l19 1) (fun v26 => pBin Try.prog 3 BinOp.lss v25 v26 (fun v27 => R v27 s20))) | false => False))
theorem vc_spec_l11Less_eq (w0 : World) (a0 a1 : Value) (σ : Vw) (R : Value → Vw → Prop) : vc_spec_l11Less w0 a0 a1 σ R = den Try.prog w0 kp_spec_l11Less esc_spec_l11Less (Try.f75.body.getD .skip) (entry Try.f75.ntmps [a0, a1]) σ (retK Try.prog Try.f75.results.toList R) := by kernel_rfl
theorem ac_spec_l11Less {w0 : World} {a0 a1 : Value} {σ : Vw} {R : Value → Vw → Prop} (h : vc_spec_l11Less w0 a0 a1 σ R) : AC Try.prog w0 n_spec_l11Less [a0, a1] σ R := by
  refine ac_rule (fn := Try.f75) (c := Try.f75.body.getD .skip) kp_spec_l11Less esc_spec_l11Less Try.func75 (by kernel_rfl) (by kernel_rfl) ?_
  rw [← vc_spec_l11Less_eq]
  exact h

/-- spec.l2Within -/
def kp_spec_l2Within : Nat → Keep
  | 4 => ⟨[0, 1, 4, 5], [], [], .done, []⟩
  | 6 => ⟨[], [], [], .step 0 (.step 1 (.step 2 (.step 3 (.step 4 (.step 5 (.step 6 (.step 7 (.step 8 (.done))))))))), [(2, [0, 1]), (3, [0, 1, 2]), (6, [4, 5]), (7, [4, 5, 6]), (8, [0, 1, 2, 3, 4, 5, 6, 7])]⟩
  | _ => ⟨[], [], [], .done, []⟩
def esc_spec_l2Within : Nat → Bool
  | _ => false
def vc_spec_l2Within (w0 : World) (a0 a1 : Value) (σ : Vw) (R : Value → Vw → Prop) : Prop :=
  pLen a0 (fun v0 => pLen a1 (fun v1 => pBin Try.prog 3 BinOp.lss v0 v1 (fun v2 => pIf v2 (R (Value.bool false) σ) (pLoop (fun l3 K4 s5 => pLen (vget l3 1) (fun v6 => pBin Try.prog 3 BinOp.lss (vget l3 3) v6 (fun v7 => pIf v7 (pIndexAddr 1 (vget l3 0) (vget l3 3) (fun v8 => pLoad w0 1 v8 s5 (fun g9 => pIndexAddr 1 (vget l3 1) (vget l3 3) (fun v10 => pLoad w0 1 v10 s5 (fun g11 => pBin Try.prog 9 BinOp.neq (g9 0) (g11 0) (fun v12 => pIf v12 (K4 AX.ret [vget l3 0, vget l3 1, Value.bool false, vget l3 3] s5) (pBin Try.prog 3 BinOp.add (vget l3 3) (Value.int IntKind.i64 1) (fun v13 => K4 AX.normal [vget l3 0, vget l3 1, vget l3 2, v13] s5)))))))) (K4 (AX.exit 0) [vget l3 0, vget l3 1, vget l3 2, vget l3 3] s5)))) [a0, a1, Value.bool false, Value.int IntKind.i64 0] σ (fun x14 l15 s16 => match x14 with | .normal => R (Value.bool true) s16 | .ret => R (vget l15 2) s16 | .exit i17 => (match Nat.beq i17 0 with | true => R (Value.bool true) s16 | false => False))))))
theorem vc_spec_l2Within_eq (w0 : World) (a0 a1 : Value) (σ : Vw) (R : Value → Vw → Prop) : vc_spec_l2Within w0 a0 a1 σ R = den Try.prog w0 kp_spec_l2Within esc_spec_l2Within (Try.f76.body.getD .skip) (entry Try.f76.ntmps [a0, a1]) σ (retK Try.prog Try.f76.results.toList R) := by kernel_rfl
theorem ac_spec_l2Within {w0 : World} {a0 a1 : Value} {σ : Vw} {R : Value → Vw → Prop} (h : vc_spec_l2Within w0 a0 a1 σ R) : AC Try.prog w0 n_spec_l2Within [a0, a1] σ R := by
  refine ac_rule (fn := Try.f76) (c := Try.f76.body.getD .skip) kp_spec_l2Within esc_spec_l2Within Try.func76 (by kernel_rfl) (by kernel_rfl) ?_
  rw [← vc_spec_l2Within_eq]
  exact h

/-- spec.l12Names -/
def kp_spec_l12Names : Nat → Keep
  | 3 => ⟨[5, 6], [(3, 5)], [3], .done, []⟩
  | 6 => ⟨[5, 6, 7], [(3, 5)], [3], .step 0 (.step 1 (.step 2 (.step 3 (.step 4 (.step 5 (.step 6 (.step 7 (.step 8 (.step 9 (.step 10 (.step 11 (.step 12 (.step 13 (.step 14 (.step 15 (.done)))))))))))))))), [(2, [1]), (3, [0, 1, 2]), (4, [0, 1, 2, 3]), (5, [0, 1, 2, 3, 4]), (6, [0, 1, 2, 3, 4]), (7, [0, 1, 2, 3, 4, 5, 6]), (8, [0, 1, 2, 3, 4, 5, 6, 7]), (9, [0, 1, 2, 3, 4]), (10, [0, 1, 2, 3, 4, 9]), (11, [0, 1, 2, 3, 4]), (12, [0, 1, 2, 3, 4, 9, 10, 11]), (13, [0, 1, 2, 3, 4, 9, 10, 11, 12]), (14, [0, 1, 2, 3, 4, 5, 6, 7, 8, 9, 10, 11, 12, 13]), (15, [0, 1, 2, 3, 4, 5, 6, 7, 8, 9, 10, 11, 12, 13, 14])]⟩
  | 8 => ⟨[], [], [], .step 0 (.step 1 (.step 2 (.step 3 (.step 4 (.step 5 (.step 6 (.step 7 (.step 8 (.step 9 (.step 10 (.step 11 (.step 12 (.step 13 (.step 14 (.step 15 (.done)))))))))))))))), [(2, [1]), (3, [0, 1, 2]), (4, [0, 1, 2, 3]), (5, [0, 1, 2, 3, 4]), (6, [0, 1, 2, 3, 4]), (7, [0, 1, 2, 3, 4, 5, 6]), (8, [0, 1, 2, 3, 4, 5, 6, 7]), (9, [0, 1, 2, 3, 4]), (10, [0, 1, 2, 3, 4, 9]), (11, [0, 1, 2, 3, 4]), (12, [0, 1, 2, 3, 4, 9, 10, 11]), (13, [0, 1, 2, 3, 4, 9, 10, 11, 12]), (14, [0, 1, 2, 3, 4, 5, 6, 7, 8, 9, 10, 11, 12, 13]), (15, [0, 1, 2, 3, 4, 5, 6, 7, 8, 9, 10, 11, 12, 13, 14])]⟩
  | 9 => ⟨[], [], [], .step 1 (.step 2 (.step 3 (.step 5 (.step 6 (.step 7 (.step 8 (.step 9 (.step 10 (.step 12 (.step 13 (.step 14 (.step 0 (.step 4 (.step 11 (.step 15 (.step 16 (.done))))))))))))))))), [(3, [1, 2]), (4, [0, 1, 2, 3]), (6, [5]), (8, [5, 6, 7]), (9, [5, 6, 7, 8]), (10, [5, 6, 7, 8, 9]), (11, [0, 1, 2, 3, 4, 5, 6, 7, 8, 9, 10]), (14, [12, 13]), (15, [0, 1, 2, 3, 4, 5, 6, 7, 8, 9, 10, 11, 12, 13, 14]), (16, [0, 1, 2, 3, 4, 5, 6, 7, 8, 9, 10, 11, 12, 13, 14, 15])]⟩
  | _ => ⟨[], [], [], .done, []⟩
def esc_spec_l12Names : Nat → Bool
  | 8 => true
  | 53 => true
  | _ => false
def vc_spec_l12Names (w0 : World) (a0 a1 : Value) (σ : Vw) (R : Value → Vw → Prop) : Prop :=
  pVal true 5 a0 (pVal true 5 a1 (pNew w0 9 [] σ (fun n0 s1 => pAppendS w0 9 1 16 (Value.slice (Option.some (Addr.mk n0 0 Option.none)) 0 0) (cellOf a0 3) s1 (fun v2 s3 => pLoop (fun l4 K5 s6 => pLen (vget l4 5) (fun v7 => pBin Try.prog 3 BinOp.lss (vget l4 1) v7 (fun v8 => pIf v8 (pLoop (fun l9 K10 s11 => pLen (vget l9 0) (fun v12 => pBin Try.prog 3 BinOp.lss (vget l9 2) v12 (fun v13 => pIf v13 (pIndexAddr 1 (vget l9 0) (vget l9 2) (fun v14 => pLoad w0 1 v14 s11 (fun g15 => pIndexAddr 1 (vget l9 6) (vget l9 1) (fun v16 => pLoad w0 1 v16 s11 (fun g17 => pBin Try.prog 9 BinOp.lss (g15 0) (g17 0) (fun v18 => pIf v18 (pBin Try.prog 3 BinOp.add (vget l9 2) (Value.int IntKind.i64 1) (fun v19 => K10 AX.normal [vget l9 0, vget l9 1, v19, vget l9 3, vget l9 4, vget l9 5, vget l9 6, vget l9 7] s11)) (K10 (AX.exit 2) [vget l9 0, vget l9 1, vget l9 2, vget l9 3, vget l9 4, vget l9 5, vget l9 6, vget l9 7] s11))))))) (K10 (AX.exit 2) [vget l9 0, vget l9 1, vget l9 2, vget l9 3, vget l9 4, vget l9 5, vget l9 6, vget l9 7] s11)))) [vget l4 0, vget l4 1, Value.int IntKind.i64 0, vget l4 2, vget l4 3, vget l4 4, vget l4 5, vget l4 6] s6 (fun x20 l21 s22 => match x20 with | .normal => pLen (vget l21 0) (fun v23 => pBin Try.prog 3 BinOp.eql (vget l21 2) v23 (fun v24 => pIf v24 (pSlice 1 (vget l21 0) Option.none (Option.some (vget l21 2)) (fun v25 => pIndexAddr 1 (vget l21 6) (vget l21 1) (fun v26 => pLoad w0 1 v26 s22 (fun g27 => pVal false 1 (g27 0) (pSlice 1 (vget l21 0) (Option.some (vget l21 2)) Option.none (fun v28 => pNew w0 9 [] s22 (fun n29 s30 => (Stay w0 s22 s30 v26 1) ∧ (pAppendS w0 9 1 16 (Value.slice (Option.some (Addr.mk n29 0 Option.none)) 0 0) v25 s30 (fun v31 s32 => (Stay w0 s30 s32 v26 1) ∧ ((allOne [g27 0]) ∧ (pAppend w0 9 1 16 v31 1 [g27 0] s32 (fun v33 s34 => pAppendS w0 9 1 16 v33 v28 s34 (fun v35 s36 => pBin Try.prog 3 BinOp.add (vget l21 1) (Value.int IntKind.i64 1) (fun v37 => K5 AX.normal [v35, v37, vget l21 3, vget l21 4, vget l21 5, vget l21 6, vget l21 7] s36)))))))))))))) (pIndexAddr 1 (vget l21 0) (vget l21 2) (fun v38 => pLoad w0 1 v38 s22 (fun g39 => pIndexAddr 1 (vget l21 6) (vget l21 1) (fun v40 => pLoad w0 1 v40 s22 (fun g41 => pBin Try.prog 9 BinOp.neq (g39 0) (g41 0) (fun v42 => pIf v42 (pSlice 1 (vget l21 0) Option.none (Option.some (vget l21 2)) (fun v43 => pIndexAddr 1 (vget l21 6) (vget l21 1) (fun v44 => pLoad w0 1 v44 s22 (fun g45 => pVal false 1 (g45 0) (pSlice 1 (vget l21 0) (Option.some (vget l21 2)) Option.none (fun v46 => pNew w0 9 [] s22 (fun n47 s48 => (Stay w0 s22 s48 v44 1) ∧ (pAppendS w0 9 1 16 (Value.slice (Option.some (Addr.mk n47 0 Option.none)) 0 0) v43 s48 (fun v49 s50 => (Stay w0 s48 s50 v44 1) ∧ ((allOne [g45 0]) ∧ (pAppend w0 9 1 16 v49 1 [g45 0] s50 (fun v51 s52 => pAppendS w0 9 1 16 v51 v46 s52 (fun v53 s54 => pBin Try.prog 3 BinOp.add (vget l21 1) (Value.int IntKind.i64 1) (fun v55 => K5 AX.normal [v53, v55, vget l21 3, vget l21 4, vget l21 5, vget l21 6, vget l21 7] s54)))))))))))))) (pBin Try.prog 3 BinOp.add (vget l21 1) (Value.int IntKind.i64 1) (fun v56 => K5 AX.normal [vget l21 0, v56, vget l21 3, vget l21 4, vget l21 5, vget l21 6, vget l21 7] s22)))))))))) | .ret => K5 AX.ret [vget l21 0, vget l21 1, vget l21 3, vget l21 4, vget l21 5, vget l21 6, vget l21 7] s22 | .exit i57 => (match Nat.beq i57 2 with | true => pLen (vget l21 0) (fun v58 => pBin Try.prog 3 BinOp.eql (vget l21 2) v58 (fun v59 => pIf v59 (pSlice 1 (vget l21 0) Option.none (Option.some (vget l21 2)) (fun v60 => pIndexAddr 1 (vget l21 6) (vget l21 1) (fun v61 => pLoad w0 1 v61 s22 (fun g62 => pVal false 1 (g62 0) (pSlice 1 (vget l21 0) (Option.some (vget l21 2)) Option.none (fun v63 => pNew w0 9 [] s22 (fun n64 s65 => (Stay w0 s22 s65 v61 1) ∧ (pAppendS w0 9 1 16 (Value.slice (Option.some (Addr.mk n64 0 Option.none)) 0 0) v60 s65 (fun v66 s67 => (Stay w0 s65 s67 v61 1) ∧ ((allOne [g62 0]) ∧ (pAppend w0 9 1 16 v66 1 [g62 0] s67 (fun v68 s69 => pAppendS w0 9 1 16 v68 v63 s69 (fun v70 s71 => pBin Try.prog 3 BinOp.add (vget l21 1) (Value.int IntKind.i64 1) (fun v72 => K5 AX.normal [v70, v72, vget l21 3, vget l21 4, vget l21 5, vget l21 6, vget l21 7] s71)))))))))))))) (pIndexAddr 1 (vget l21 0) (vget l21 2) (fun v73 => pLoad w0 1 v73 s22 (fun g74 => pIndexAddr 1 (vget l21 6) (vget l21 1) (fun v75 => pLoad w0 1 v75 s22 (fun g76 => pBin Try.prog 9 BinOp.neq (g74 0) (g76 0) (fun v77 => pIf v77 (pSlice 1 (vget l21 0) Option.none (Option.some (vget l21 2)) (fun v78 => pIndexAddr 1 (vget l21 6) (vget l21 1) (fun v79 => pLoad w0 1 v79 s22 (fun g80 => pVal false 1 (g80 0) (pSlice 1 (vget l21 0) (Option.some (vget l21 2)) Option.none (fun v81 => pNew w0 9 [] s22 (fun n82 s83 => (Stay w0 s22 s83 v79 1) ∧ (pAppendS w0 9 1 16 (Value.slice (Option.some (Addr.mk n82 0 Option.none)) 0 0) v78 s83 (fun v84 s85 => (Stay w0 s83 s85 v79 1) ∧ ((allOne [g80 0]) ∧ (pAppend w0 9 1 16 v84 1 [g80 0] s85 (fun v86 s87 => pAppendS w0 9 1 16 v86 v81 s87 (fun v88 s89 => pBin Try.prog 3 BinOp.add (vget l21 1) (Value.int IntKind.i64 1) (fun v90 => K5 AX.normal [v88, v90, vget l21 3, vget l21 4, vget l21 5, vget l21 6, vget l21 7] s89)))))))))))))) (pBin Try.prog 3 BinOp.add (vget l21 1) (Value.int IntKind.i64 1) (fun v91 => K5 AX.normal [vget l21 0, v91, vget l21 3, vget l21 4, vget l21 5, vget l21 6, vget l21 7] s22)))))))))) | false => (match Nat.beq i57 1 with | true => pBin Try.prog 3 BinOp.add (vget l21 1) (Value.int IntKind.i64 1) (fun v92 => K5 AX.normal [vget l21 0, v92, vget l21 3, vget l21 4, vget l21 5, vget l21 6, vget l21 7] s22) | false => K5 (AX.exit i57) [vget l21 0, vget l21 1, vget l21 3, vget l21 4, vget l21 5, vget l21 6, vget l21 7] s22)))) (K5 (AX.exit 0) [vget l4 0, vget l4 1, vget l4 2, vget l4 3, vget l4 4, vget l4 5, vget l4 6] s6)))) [v2, Value.int IntKind.i64 0, cellOf a1 0, cellOf a1 1, cellOf a1 2, cellOf a1 3, cellOf a1 4] s3 (fun x93 l94 s95 => match x93 with | .normal => R (vget l94 0) s95 | .ret => False | .exit i96 => (match Nat.beq i96 0 with | true => R (vget l94 0) s95 | false => False))))))
theorem vc_spec_l12Names_eq (w0 : World) (a0 a1 : Value) (σ : Vw) (R : Value → Vw → Prop) : vc_spec_l12Names w0 a0 a1 σ R = den Try.prog w0 kp_spec_l12Names esc_spec_l12Names (Try.f77.body.getD .skip) (entry Try.f77.ntmps [a0, a1]) σ (retK Try.prog Try.f77.results.toList R) := by kernel_rfl
theorem ac_spec_l12Names {w0 : World} {a0 a1 : Value} {σ : Vw} {R : Value → Vw → Prop} (h : vc_spec_l12Names w0 a0 a1 σ R) : AC Try.prog w0 n_spec_l12Names [a0, a1] σ R := by
  refine ac_rule (fn := Try.f77) (c := Try.f77.body.getD .skip) kp_spec_l12Names esc_spec_l12Names Try.func77 (by kernel_rfl) (by kernel_rfl) ?_
  rw [← vc_spec_l12Names_eq]
  exact h

/-- spec.l12Kid -/
def kp_spec_l12Kid : Nat → Keep
  | _ => ⟨[], [], [], .done, []⟩
def esc_spec_l12Kid : Nat → Bool
  | 8 => true
  | _ => false
def vc_spec_l12Kid (w0 : World) (a0 a1 : Value) (σ : Vw) (R : Value → Vw → Prop) : Prop :=
  pVal true 5 a0 (pVal false 1 a1 (pNew w0 9 [a1] σ (fun n0 s1 => AC Try.prog w0 n_spec_l1At ([Value.agg (⟨[cellOf a0 0, cellOf a0 1, cellOf a0 2, cellOf a0 3, cellOf a0 4]⟩), Value.slice (Option.some (Addr.mk n0 0 Option.none)) 1 1]) s1 (fun v2 s3 => pExtract v2 0 (fun v4 => pExtract v2 1 (fun v5 => pVal true 5 v4 (R (Value.tuple (⟨[Value.agg (⟨[cellOf v4 0, cellOf v4 1, cellOf v4 2, cellOf v4 3, cellOf v4 4]⟩), v5]⟩)) s3)))))))
theorem vc_spec_l12Kid_eq (w0 : World) (a0 a1 : Value) (σ : Vw) (R : Value → Vw → Prop) : vc_spec_l12Kid w0 a0 a1 σ R = den Try.prog w0 kp_spec_l12Kid esc_spec_l12Kid (Try.f78.body.getD .skip) (entry Try.f78.ntmps [a0, a1]) σ (retK Try.prog Try.f78.results.toList R) := by kernel_rfl
theorem ac_spec_l12Kid {w0 : World} {a0 a1 : Value} {σ : Vw} {R : Value → Vw → Prop} (h : vc_spec_l12Kid w0 a0 a1 σ R) : AC Try.prog w0 n_spec_l12Kid [a0, a1] σ R := by
  refine ac_rule (fn := Try.f78) (c := Try.f78.body.getD .skip) kp_spec_l12Kid esc_spec_l12Kid Try.func78 (by kernel_rfl) (by kernel_rfl) ?_
  rw [← vc_spec_l12Kid_eq]
  exact h

/-- impl.markOk -/
def kp_impl_markOk : Nat → Keep
  | _ => ⟨[], [], [], .done, []⟩
def esc_impl_markOk : Nat → Bool
  | _ => false
def vc_impl_markOk (w0 : World) (a0 : Value) (σ : Vw) (R : Value → Vw → Prop) : Prop :=
  pVal true 2 a0 (AC Try.prog w0 n_impl_namesOk [cellOf a0 0, Value.int IntKind.i64 0] σ (fun v0 s1 => pIf v0 (pLen (cellOf a0 0) (fun v2 => pBin Try.prog 3 BinOp.gtr v2 (Value.int IntKind.i64 0) (fun v3 => pIf v3 (R (Value.bool true) s1) (R (cellOf a0 1) s1)))) (R (Value.bool false) s1)))
theorem vc_impl_markOk_eq (w0 : World) (a0 : Value) (σ : Vw) (R : Value → Vw → Prop) : vc_impl_markOk w0 a0 σ R = den Try.prog w0 kp_impl_markOk esc_impl_markOk (Try.f79.body.getD .skip) (entry Try.f79.ntmps [a0]) σ (retK Try.prog Try.f79.results.toList R) := by kernel_rfl
theorem ac_impl_markOk {w0 : World} {a0 : Value} {σ : Vw} {R : Value → Vw → Prop} (h : vc_impl_markOk w0 a0 σ R) : AC Try.prog w0 n_impl_markOk [a0] σ R := by
  refine ac_rule (fn := Try.f79) (c := Try.f79.body.getD .skip) kp_impl_markOk esc_impl_markOk Try.func79 (by kernel_rfl) (by kernel_rfl) ?_
  rw [← vc_impl_markOk_eq]
  exact h

/-- slices.Compare[[]string,string] -/
def kp_slices_Compare_string_string : Nat → Keep
  | 2 => ⟨[0, 1, 4, 9, 10, 11], [], [], .done, []⟩
  | _ => ⟨[], [], [], .done, []⟩
def esc_slices_Compare_string_string : Nat → Bool
  | _ => false
def vc_slices_Compare_string_string (w0 : World) (a0 a1 : Value) (σ : Vw) (R : Value → Vw → Prop) : Prop :=
  pLen a0 (fun v0 => pLoop (fun l1 K2 s3 => pBin Try.prog 3 BinOp.lss (vget l1 5) (vget l1 4) (fun v4 => pIf v4 (pIndexAddr 1 (vget l1 3) (vget l1 5) (fun v5 => pLoad w0 1 v5 s3 (fun g6 => pLen (vget l1 1) (fun v7 => pBin Try.prog 3 BinOp.geq (vget l1 5) v7 (fun v8 => pIf v8 (K2 AX.ret [vget l1 0, vget l1 1, Value.int IntKind.i64 1, vget l1 3, vget l1 4, vget l1 5] s3) (pIndexAddr 1 (vget l1 1) (vget l1 5) (fun v9 => pLoad w0 1 v9 s3 (fun g10 => AC Try.prog w0 n_cmp_Compare_string [g6 0, g10 0] s3 (fun v11 s12 => pBin Try.prog 3 BinOp.neq v11 (Value.int IntKind.i64 0) (fun v13 => pIf v13 (K2 AX.ret [vget l1 0, vget l1 1, v11, vget l1 3, vget l1 4, vget l1 5] s12) (pBin Try.prog 3 BinOp.add (vget l1 5) (Value.int IntKind.i64 1) (fun v14 => K2 AX.normal [vget l1 0, vget l1 1, vget l1 2, vget l1 3, vget l1 4, v14] s12)))))))))))) (K2 (AX.exit 0) [vget l1 0, vget l1 1, vget l1 2, vget l1 3, vget l1 4, vget l1 5] s3))) [a0, a1, Value.int IntKind.i64 0, a0, v0, Value.int IntKind.i64 0] σ (fun x15 l16 s17 => match x15 with | .normal => pLen (vget l16 0) (fun v18 => pLen (vget l16 1) (fun v19 => pBin Try.prog 3 BinOp.lss v18 v19 (fun v20 => pIf v20 (R (Value.int IntKind.i64 (-1)) s17) (R (Value.int IntKind.i64 0) s17)))) | .ret => R (vget l16 2) s17 | .exit i21 => (match Nat.beq i21 0 with | true => pLen (vget l16 0) (fun v22 => pLen (vget l16 1) (fun v23 => pBin Try.prog 3 BinOp.lss v22 v23 (fun v24 => pIf v24 (R (Value.int IntKind.i64 (-1)) s17) (R (Value.int IntKind.i64 0) s17)))) | false => False)))
theorem vc_slices_Compare_string_string_eq (w0 : World) (a0 a1 : Value) (σ : Vw) (R : Value → Vw → Prop) : vc_slices_Compare_string_string w0 a0 a1 σ R = den Try.prog w0 kp_slices_Compare_string_string esc_slices_Compare_string_string (Try.f80.body.getD .skip) (entry Try.f80.ntmps [a0, a1]) σ (retK Try.prog Try.f80.results.toList R) := by kernel_rfl
theorem ac_slices_Compare_string_string {w0 : World} {a0 a1 : Value} {σ : Vw} {R : Value → Vw → Prop} (h : vc_slices_Compare_string_string w0 a0 a1 σ R) : AC Try.prog w0 n_slices_Compare_string_string [a0, a1] σ R := by
  refine ac_rule (fn := Try.f80) (c := Try.f80.body.getD .skip) kp_slices_Compare_string_string esc_slices_Compare_string_string Try.func80 (by kernel_rfl) (by kernel_rfl) ?_
  rw [← vc_slices_Compare_string_string_eq]
  exact h

end Go.Proofs.Ytkbhjejalkbogaa

/- What each function owes, reckoned out, part 3. MADE BY PROGRAM (emit.py). -/
set_option linter.unusedVariables false
namespace Go.Proofs.Ytkbhjejalkbogaa
open Go Go.Av

/-- impl.under -/
def kp_impl_under : Nat → Keep
  | 2 => ⟨[1, 4, 7, 8, 9], [], [], .done, []⟩
  | _ => ⟨[], [], [], .done, []⟩
def esc_impl_under : Nat → Bool
  | _ => false
def vc_impl_under (w0 : World) (a0 a1 : Value) (σ : Vw) (R : Value → Vw → Prop) : Prop :=
  pLen a0 (fun v0 => pLoop (fun l1 K2 s3 => pBin Try.prog 3 BinOp.lss (vget l1 4) (vget l1 3) (fun v4 => pIf v4 (pIndexAddr 2 (vget l1 2) (vget l1 4) (fun v5 => pLoad w0 2 v5 s3 (fun g6 => pVal true 2 (Value.agg (⟨[g6 0, g6 1]⟩)) (pIf (g6 1) (AC Try.prog w0 n_impl_begins [vget l1 0, g6 0] s3 (fun v7 s8 => pIf v7 (K2 AX.ret [vget l1 0, Value.bool true, vget l1 2, vget l1 3, vget l1 4] s8) (pBin Try.prog 3 BinOp.add (vget l1 4) (Value.int IntKind.i64 1) (fun v9 => K2 AX.normal [vget l1 0, vget l1 1, vget l1 2, vget l1 3, v9] s8)))) (pBin Try.prog 3 BinOp.add (vget l1 4) (Value.int IntKind.i64 1) (fun v10 => K2 AX.normal [vget l1 0, vget l1 1, vget l1 2, vget l1 3, v10] s3)))))) (K2 (AX.exit 0) [vget l1 0, vget l1 1, vget l1 2, vget l1 3, vget l1 4] s3))) [a1, Value.bool false, a0, v0, Value.int IntKind.i64 0] σ (fun x11 l12 s13 => match x11 with | .normal => R (Value.bool false) s13 | .ret => R (vget l12 1) s13 | .exit i14 => (match Nat.beq i14 0 with | true => R (Value.bool false) s13 | false => False)))
theorem vc_impl_under_eq (w0 : World) (a0 a1 : Value) (σ : Vw) (R : Value → Vw → Prop) : vc_impl_under w0 a0 a1 σ R = den Try.prog w0 kp_impl_under esc_impl_under (Try.f81.body.getD .skip) (entry Try.f81.ntmps [a0, a1]) σ (retK Try.prog Try.f81.results.toList R) := by kernel_rfl
theorem ac_impl_under {w0 : World} {a0 a1 : Value} {σ : Vw} {R : Value → Vw → Prop} (h : vc_impl_under w0 a0 a1 σ R) : AC Try.prog w0 n_impl_under [a0, a1] σ R := by
  refine ac_rule (fn := Try.f81) (c := Try.f81.body.getD .skip) kp_impl_under esc_impl_under Try.func81 (by kernel_rfl) (by kernel_rfl) ?_
  rw [← vc_impl_under_eq]
  exact h

/-- impl.either -/
def kp_impl_either : Nat → Keep
  | 1 => ⟨[], [], [], .step 1 (.step 2 (.step 3 (.step 4 (.step 6 (.step 7 (.step 8 (.step 9 (.step 0 (.step 5 (.step 10 (.step 11 (.done)))))))))))), [(2, [1]), (3, [1, 2]), (4, [1, 2, 3]), (5, [0, 1, 2, 3, 4]), (7, [6]), (8, [6, 7]), (9, [6, 7, 8]), (10, [0, 1, 2, 3, 4, 5, 6, 7, 8, 9]), (11, [0, 1, 2, 3, 4, 5, 6, 7, 8, 9, 10])]⟩
  | _ => ⟨[], [], [], .done, []⟩
def esc_impl_either : Nat → Bool
  | 6 => true
  | _ => false
def vc_impl_either (w0 : World) (a0 a1 : Value) (σ : Vw) (R : Value → Vw → Prop) : Prop :=
  pNil a0 (pField 3 a0 (fun v0 => pLoad w0 1 v0 σ (fun g1 => pNil a1 (pField 3 a1 (fun v2 => pLoad w0 1 v2 σ (fun g3 => pNew w0 9 [] σ (fun n4 s5 => (Stay w0 σ s5 v2 1) ∧ ((Stay w0 σ s5 v0 1) ∧ (pAppendS w0 9 1 16 (Value.slice (Option.some (Addr.mk n4 0 Option.none)) 0 0) (g1 0) s5 (fun v6 s7 => (Stay w0 s5 s7 v2 1) ∧ (pAppendS w0 9 1 16 v6 (g3 0) s7 (fun v8 s9 => AC Try.prog w0 n_slices_Sort_string_string [v8] s9 (fun v10 s11 => AC Try.prog w0 n_slices_Compact_string_string [v8] s11 (fun v12 s13 => R v12 s13))))))))))))))
theorem vc_impl_either_eq (w0 : World) (a0 a1 : Value) (σ : Vw) (R : Value → Vw → Prop) : vc_impl_either w0 a0 a1 σ R = den Try.prog w0 kp_impl_either esc_impl_either (Try.f82.body.getD .skip) (entry Try.f82.ntmps [a0, a1]) σ (retK Try.prog Try.f82.results.toList R) := by kernel_rfl
theorem ac_impl_either {w0 : World} {a0 a1 : Value} {σ : Vw} {R : Value → Vw → Prop} (h : vc_impl_either w0 a0 a1 σ R) : AC Try.prog w0 n_impl_either [a0, a1] σ R := by
  refine ac_rule (fn := Try.f82) (c := Try.f82.body.getD .skip) kp_impl_either esc_impl_either Try.func82 (by kernel_rfl) (by kernel_rfl) ?_
  rw [← vc_impl_either_eq]
  exact h

/-- spec.l11Marked -/
def kp_spec_l11Marked : Nat → Keep
  | 2 => ⟨[0, 1, 4, 5], [], [], .done, []⟩
  | _ => ⟨[], [], [], .done, []⟩
def esc_spec_l11Marked : Nat → Bool
  | _ => false
def vc_spec_l11Marked (w0 : World) (a0 a1 : Value) (σ : Vw) (R : Value → Vw → Prop) : Prop :=
  pLoop (fun l0 K1 s2 => pLen (vget l0 0) (fun v3 => pBin Try.prog 3 BinOp.lss (vget l0 3) v3 (fun v4 => pIf v4 (pIndexAddr 2 (vget l0 0) (vget l0 3) (fun v5 => pField 0 v5 (fun v6 => pLoad w0 1 v6 s2 (fun g7 => AC Try.prog w0 n_spec_l11Same [g7 0, vget l0 1] s2 (fun v8 s9 => pIf v8 (K1 AX.ret [vget l0 0, vget l0 1, Value.bool true, vget l0 3] s9) (pIndexAddr 2 (vget l0 0) (vget l0 3) (fun v10 => pField 1 v10 (fun v11 => pLoad w0 1 v11 s9 (fun g12 => pIf (g12 0) (pIndexAddr 2 (vget l0 0) (vget l0 3) (fun v13 => pField 0 v13 (fun v14 => pLoad w0 1 v14 s9 (fun g15 => AC Try.prog w0 n_spec_l2Within [vget l0 1, g15 0] s9 (fun v16 s17 => pIf v16 (K1 AX.ret [vget l0 0, vget l0 1, Value.bool true, vget l0 3] s17) (pBin Try.prog 3 BinOp.add (vget l0 3) (Value.int IntKind.i64 1) (fun v18 => K1 AX.normal [vget l0 0, vget l0 1, vget l0 2, v18] s17))))))) (pBin Try.prog 3 BinOp.add (vget l0 3) (Value.int IntKind.i64 1) (fun v19 => K1 AX.normal [vget l0 0, vget l0 1, vget l0 2, v19] s9))))))))))) (K1 (AX.exit 0) [vget l0 0, vget l0 1, vget l0 2, vget l0 3] s2)))) [a0, a1, Value.bool false, Value.int IntKind.i64 0] σ (fun x20 l21 s22 => match x20 with | .normal => R (Value.bool false) s22 | .ret => R (vget l21 2) s22 | .exit i23 => (match Nat.beq i23 0 with | true => R (Value.bool false) s22 | false => False))
theorem vc_spec_l11Marked_eq (w0 : World) (a0 a1 : Value) (σ : Vw) (R : Value → Vw → Prop) : vc_spec_l11Marked w0 a0 a1 σ R = den Try.prog w0 kp_spec_l11Marked esc_spec_l11Marked (Try.f83.body.getD .skip) (entry Try.f83.ntmps [a0, a1]) σ (retK Try.prog Try.f83.results.toList R) := by kernel_rfl
theorem ac_spec_l11Marked {w0 : World} {a0 a1 : Value} {σ : Vw} {R : Value → Vw → Prop} (h : vc_spec_l11Marked w0 a0 a1 σ R) : AC Try.prog w0 n_spec_l11Marked [a0, a1] σ R := by
  refine ac_rule (fn := Try.f83) (c := Try.f83.body.getD .skip) kp_spec_l11Marked esc_spec_l11Marked Try.func83 (by kernel_rfl) (by kernel_rfl) ?_
  rw [← vc_spec_l11Marked_eq]
  exact h

/-- spec.l3Path -/
def kp_spec_l3Path : Nat → Keep
  | _ => ⟨[], [], [], .done, []⟩
def esc_spec_l3Path : Nat → Bool
  | 5 => true
  | _ => false
def vc_spec_l3Path (w0 : World) (a0 a1 : Value) (σ : Vw) (R : Value → Vw → Prop) : Prop :=
  pNew w0 9 [] σ (fun n0 s1 => pAppendS w0 9 1 16 (Value.slice (Option.some (Addr.mk n0 0 Option.none)) 0 0) a0 s1 (fun v2 s3 => pVal false 1 a1 ((allOne [a1]) ∧ (pAppend w0 9 1 16 v2 1 [a1] s3 (fun v4 s5 => R v4 s5)))))
theorem vc_spec_l3Path_eq (w0 : World) (a0 a1 : Value) (σ : Vw) (R : Value → Vw → Prop) : vc_spec_l3Path w0 a0 a1 σ R = den Try.prog w0 kp_spec_l3Path esc_spec_l3Path (Try.f84.body.getD .skip) (entry Try.f84.ntmps [a0, a1]) σ (retK Try.prog Try.f84.results.toList R) := by kernel_rfl
theorem ac_spec_l3Path {w0 : World} {a0 a1 : Value} {σ : Vw} {R : Value → Vw → Prop} (h : vc_spec_l3Path w0 a0 a1 σ R) : AC Try.prog w0 n_spec_l3Path [a0, a1] σ R := by
  refine ac_rule (fn := Try.f84) (c := Try.f84.body.getD .skip) kp_spec_l3Path esc_spec_l3Path Try.func84 (by kernel_rfl) (by kernel_rfl) ?_
  rw [← vc_spec_l3Path_eq]
  exact h

/-- impl.marked -/
def kp_impl_marked : Nat → Keep
  | _ => ⟨[], [], [], .done, []⟩
def esc_impl_marked : Nat → Bool
  | 3 => true
  | _ => false
def vc_impl_marked (w0 : World) (a0 a1 : Value) (σ : Vw) (R : Value → Vw → Prop) : Prop :=
  pVal false 1 a1 (pNew w0 23 [a1] σ (fun n0 s1 => pLoad w0 1 (Value.pointer (Option.some (Addr.mk n0 0 Option.none))) s1 (fun g2 => AC Try.prog w0 n_impl_under [a0, g2 0] s1 (fun v3 s4 => pIf v3 (R (Value.bool true) s4) (AC Try.prog w0 n_slices_ContainsFunc_impl_Mark_impl_Mark ([a0, Value.func (Fn.func 112) ⟨[]⟩ (⟨[Value.pointer (Option.some (Addr.mk n0 0 Option.none))]⟩)]) s4 (fun v5 s6 => R v5 s6))))))
theorem vc_impl_marked_eq (w0 : World) (a0 a1 : Value) (σ : Vw) (R : Value → Vw → Prop) : vc_impl_marked w0 a0 a1 σ R = den Try.prog w0 kp_impl_marked esc_impl_marked (Try.f85.body.getD .skip) (entry Try.f85.ntmps [a0, a1]) σ (retK Try.prog Try.f85.results.toList R) := by kernel_rfl
theorem ac_impl_marked {w0 : World} {a0 a1 : Value} {σ : Vw} {R : Value → Vw → Prop} (h : vc_impl_marked w0 a0 a1 σ R) : AC Try.prog w0 n_impl_marked [a0, a1] σ R := by
  refine ac_rule (fn := Try.f85) (c := Try.f85.body.getD .skip) kp_impl_marked esc_impl_marked Try.func85 (by kernel_rfl) (by kernel_rfl) ?_
  rw [← vc_impl_marked_eq]
  exact h

/-- impl.below -/
def kp_impl_below : Nat → Keep
  | _ => ⟨[], [], [], .done, []⟩
def esc_impl_below : Nat → Bool
  | 5 => true
  | _ => false
def vc_impl_below (w0 : World) (a0 a1 : Value) (σ : Vw) (R : Value → Vw → Prop) : Prop :=
  pNew w0 9 [] σ (fun n0 s1 => pAppendS w0 9 1 16 (Value.slice (Option.some (Addr.mk n0 0 Option.none)) 0 0) a0 s1 (fun v2 s3 => pVal false 1 a1 ((allOne [a1]) ∧ (pAppend w0 9 1 16 v2 1 [a1] s3 (fun v4 s5 => R v4 s5)))))
theorem vc_impl_below_eq (w0 : World) (a0 a1 : Value) (σ : Vw) (R : Value → Vw → Prop) : vc_impl_below w0 a0 a1 σ R = den Try.prog w0 kp_impl_below esc_impl_below (Try.f86.body.getD .skip) (entry Try.f86.ntmps [a0, a1]) σ (retK Try.prog Try.f86.results.toList R) := by kernel_rfl
theorem ac_impl_below {w0 : World} {a0 a1 : Value} {σ : Vw} {R : Value → Vw → Prop} (h : vc_impl_below w0 a0 a1 σ R) : AC Try.prog w0 n_impl_below [a0, a1] σ R := by
  refine ac_rule (fn := Try.f86) (c := Try.f86.body.getD .skip) kp_impl_below esc_impl_below Try.func86 (by kernel_rfl) (by kernel_rfl) ?_
  rw [← vc_impl_below_eq]
  exact h

/-- impl.modeOk -/
def kp_impl_modeOk : Nat → Keep
  | _ => ⟨[], [], [], .done, []⟩
def esc_impl_modeOk : Nat → Bool
  | _ => false
def vc_impl_modeOk (w0 : World) (a0 : Value) (σ : Vw) (R : Value → Vw → Prop) : Prop :=
  AC Try.prog w0 n_impl_within [a0, Value.int IntKind.i64 0, Value.int IntKind.i64 7] σ (fun v0 s1 => R v0 s1)
theorem vc_impl_modeOk_eq (w0 : World) (a0 : Value) (σ : Vw) (R : Value → Vw → Prop) : vc_impl_modeOk w0 a0 σ R = den Try.prog w0 kp_impl_modeOk esc_impl_modeOk (Try.f99.body.getD .skip) (entry Try.f99.ntmps [a0]) σ (retK Try.prog Try.f99.results.toList R) := by kernel_rfl
theorem ac_impl_modeOk {w0 : World} {a0 : Value} {σ : Vw} {R : Value → Vw → Prop} (h : vc_impl_modeOk w0 a0 σ R) : AC Try.prog w0 n_impl_modeOk [a0] σ R := by
  refine ac_rule (fn := Try.f99) (c := Try.f99.body.getD .skip) kp_impl_modeOk esc_impl_modeOk Try.func99 (by kernel_rfl) (by kernel_rfl) ?_
  rw [← vc_impl_modeOk_eq]
  exact h

/-- impl.nameOk -/
def kp_impl_nameOk : Nat → Keep
  | 2 => ⟨[0, 2, 5, 6], [], [], .done, []⟩
  | _ => ⟨[], [], [], .done, []⟩
def esc_impl_nameOk : Nat → Bool
  | _ => false
def vc_impl_nameOk (w0 : World) (a0 : Value) (σ : Vw) (R : Value → Vw → Prop) : Prop :=
  pLenS a0 (fun v0 => pLoop (fun l1 K2 s3 => pBin Try.prog 3 BinOp.lss (vget l1 3) (vget l1 2) (fun v4 => pIf v4 (pIndexStr (vget l1 0) (vget l1 3) (fun v5 => pBin Try.prog 5 BinOp.lss v5 (Value.int IntKind.u8 97) (fun v6 => pIf v6 (pIndexStr (vget l1 0) (vget l1 3) (fun v7 => pBin Try.prog 5 BinOp.lss v7 (Value.int IntKind.u8 48) (fun v8 => pIf v8 (K2 AX.ret [vget l1 0, Value.bool false, vget l1 2, vget l1 3] s3) (pIndexStr (vget l1 0) (vget l1 3) (fun v9 => pBin Try.prog 5 BinOp.gtr v9 (Value.int IntKind.u8 57) (fun v10 => pIf v10 (K2 AX.ret [vget l1 0, Value.bool false, vget l1 2, vget l1 3] s3) (pBin Try.prog 3 BinOp.add (vget l1 3) (Value.int IntKind.i64 1) (fun v11 => K2 AX.normal [vget l1 0, vget l1 1, vget l1 2, v11] s3)))))))) (pIndexStr (vget l1 0) (vget l1 3) (fun v12 => pBin Try.prog 5 BinOp.gtr v12 (Value.int IntKind.u8 122) (fun v13 => pIf v13 (pIndexStr (vget l1 0) (vget l1 3) (fun v14 => pBin Try.prog 5 BinOp.lss v14 (Value.int IntKind.u8 48) (fun v15 => pIf v15 (K2 AX.ret [vget l1 0, Value.bool false, vget l1 2, vget l1 3] s3) (pIndexStr (vget l1 0) (vget l1 3) (fun v16 => pBin Try.prog 5 BinOp.gtr v16 (Value.int IntKind.u8 57) (fun v17 => pIf v17 (K2 AX.ret [vget l1 0, Value.bool false, vget l1 2, vget l1 3] s3) (pBin Try.prog 3 BinOp.add (vget l1 3) (Value.int IntKind.i64 1) (fun v18 => K2 AX.normal [vget l1 0, vget l1 1, vget l1 2, v18] s3)))))))) (pBin Try.prog 3 BinOp.add (vget l1 3) (Value.int IntKind.i64 1) (fun v19 => K2 AX.normal [vget l1 0, vget l1 1, vget l1 2, v19] s3)))))))) (K2 (AX.exit 0) [vget l1 0, vget l1 1, vget l1 2, vget l1 3] s3))) [a0, Value.bool false, v0, Value.int IntKind.i64 0] σ (fun x20 l21 s22 => match x20 with | .normal => pLenS (vget l21 0) (fun v23 => AC Try.prog w0 n_impl_within [v23, Value.int IntKind.i64 1, Value.int IntKind.i64 5] s22 (fun v24 s25 => R v24 s25)) | .ret => R (vget l21 1) s22 | .exit i26 => (match Nat.beq i26 0 with | true => pLenS (vget l21 0) (fun v27 => AC Try.prog w0 n_impl_within [v27, Value.int IntKind.i64 1, Value.int IntKind.i64 5] s22 (fun v28 s29 => R v28 s29)) | false => False)))
theorem vc_impl_nameOk_eq (w0 : World) (a0 : Value) (σ : Vw) (R : Value → Vw → Prop) : vc_impl_nameOk w0 a0 σ R = den Try.prog w0 kp_impl_nameOk esc_impl_nameOk (Try.f100.body.getD .skip) (entry Try.f100.ntmps [a0]) σ (retK Try.prog Try.f100.results.toList R) := by kernel_rfl
theorem ac_impl_nameOk {w0 : World} {a0 : Value} {σ : Vw} {R : Value → Vw → Prop} (h : vc_impl_nameOk w0 a0 σ R) : AC Try.prog w0 n_impl_nameOk [a0] σ R := by
  refine ac_rule (fn := Try.f100) (c := Try.f100.body.getD .skip) kp_impl_nameOk esc_impl_nameOk Try.func100 (by kernel_rfl) (by kernel_rfl) ?_
  rw [← vc_impl_nameOk_eq]
  exact h

/-- slices.Index[[]string,string] -/
def kp_slices_Index_string_string : Nat → Keep
  | 2 => ⟨[0, 1, 4, 7, 8], [], [], .done, []⟩
  | _ => ⟨[], [], [], .done, []⟩
def esc_slices_Index_string_string : Nat → Bool
  | _ => false
def vc_slices_Index_string_string (w0 : World) (a0 a1 : Value) (σ : Vw) (R : Value → Vw → Prop) : Prop :=
  pLen a0 (fun v0 => pLoop (fun l1 K2 s3 => pBin Try.prog 3 BinOp.lss (vget l1 4) (vget l1 3) (fun v4 => pIf v4 (pIndexAddr 1 (vget l1 0) (vget l1 4) (fun v5 => pLoad w0 1 v5 s3 (fun g6 => pBin Try.prog 9 BinOp.eql (vget l1 1) (g6 0) (fun v7 => pIf v7 (K2 AX.ret [vget l1 0, vget l1 1, vget l1 4, vget l1 3, vget l1 4] s3) (pBin Try.prog 3 BinOp.add (vget l1 4) (Value.int IntKind.i64 1) (fun v8 => K2 AX.normal [vget l1 0, vget l1 1, vget l1 2, vget l1 3, v8] s3)))))) (K2 (AX.exit 0) [vget l1 0, vget l1 1, vget l1 2, vget l1 3, vget l1 4] s3))) [a0, a1, Value.int IntKind.i64 0, v0, Value.int IntKind.i64 0] σ (fun x9 l10 s11 => match x9 with | .normal => R (Value.int IntKind.i64 (-1)) s11 | .ret => R (vget l10 2) s11 | .exit i12 => (match Nat.beq i12 0 with | true => R (Value.int IntKind.i64 (-1)) s11 | false => False)))
theorem vc_slices_Index_string_string_eq (w0 : World) (a0 a1 : Value) (σ : Vw) (R : Value → Vw → Prop) : vc_slices_Index_string_string w0 a0 a1 σ R = den Try.prog w0 kp_slices_Index_string_string esc_slices_Index_string_string (Try.f101.body.getD .skip) (entry Try.f101.ntmps [a0, a1]) σ (retK Try.prog Try.f101.results.toList R) := by kernel_rfl
theorem ac_slices_Index_string_string {w0 : World} {a0 a1 : Value} {σ : Vw} {R : Value → Vw → Prop} (h : vc_slices_Index_string_string w0 a0 a1 σ R) : AC Try.prog w0 n_slices_Index_string_string [a0, a1] σ R := by
  refine ac_rule (fn := Try.f101) (c := Try.f101.body.getD .skip) kp_slices_Index_string_string esc_slices_Index_string_string Try.func101 (by kernel_rfl) (by kernel_rfl) ?_
  rw [← vc_slices_Index_string_string_eq]
  exact h

/-- spec.l1In -/
def kp_spec_l1In : Nat → Keep
  | _ => ⟨[], [], [], .done, []⟩
def esc_spec_l1In : Nat → Bool
  | _ => false
def vc_spec_l1In (w0 : World) (a0 a1 a2 : Value) (σ : Vw) (R : Value → Vw → Prop) : Prop :=
  pBin Try.prog 3 BinOp.geq a0 a1 (fun v0 => pIf v0 (pBin Try.prog 3 BinOp.leq a0 a2 (fun v1 => R v1 σ)) (R (Value.bool false) σ))
theorem vc_spec_l1In_eq (w0 : World) (a0 a1 a2 : Value) (σ : Vw) (R : Value → Vw → Prop) : vc_spec_l1In w0 a0 a1 a2 σ R = den Try.prog w0 kp_spec_l1In esc_spec_l1In (Try.f102.body.getD .skip) (entry Try.f102.ntmps [a0, a1, a2]) σ (retK Try.prog Try.f102.results.toList R) := by kernel_rfl
theorem ac_spec_l1In {w0 : World} {a0 a1 a2 : Value} {σ : Vw} {R : Value → Vw → Prop} (h : vc_spec_l1In w0 a0 a1 a2 σ R) : AC Try.prog w0 n_spec_l1In [a0, a1, a2] σ R := by
  refine ac_rule (fn := Try.f102) (c := Try.f102.body.getD .skip) kp_spec_l1In esc_spec_l1In Try.func102 (by kernel_rfl) (by kernel_rfl) ?_
  rw [← vc_spec_l1In_eq]
  exact h

/-- spec.l1NameOk -/
def kp_spec_l1NameOk : Nat → Keep
  | 2 => ⟨[0, 2, 3], [], [], .done, []⟩
  | _ => ⟨[], [], [], .done, []⟩
def esc_spec_l1NameOk : Nat → Bool
  | _ => false
def vc_spec_l1NameOk (w0 : World) (a0 : Value) (σ : Vw) (R : Value → Vw → Prop) : Prop :=
  pLoop (fun l0 K1 s2 => pLenS (vget l0 0) (fun v3 => pBin Try.prog 3 BinOp.lss (vget l0 2) v3 (fun v4 => pIf v4 (pIndexStr (vget l0 0) (vget l0 2) (fun v5 => pBin Try.prog 5 BinOp.geq v5 (Value.int IntKind.u8 97) (fun v6 => pIf v6 (pIndexStr (vget l0 0) (vget l0 2) (fun v7 => pBin Try.prog 5 BinOp.leq v7 (Value.int IntKind.u8 122) (fun v8 => pIf v8 (pUn UnOp.not (Value.bool true) (fun v9 => pIf v9 (K1 AX.ret [vget l0 0, Value.bool false, vget l0 2] s2) (pBin Try.prog 3 BinOp.add (vget l0 2) (Value.int IntKind.i64 1) (fun v10 => K1 AX.normal [vget l0 0, vget l0 1, v10] s2)))) (pIndexStr (vget l0 0) (vget l0 2) (fun v11 => pBin Try.prog 5 BinOp.geq v11 (Value.int IntKind.u8 48) (fun v12 => pIf v12 (pIndexStr (vget l0 0) (vget l0 2) (fun v13 => pBin Try.prog 5 BinOp.leq v13 (Value.int IntKind.u8 57) (fun v14 => pUn UnOp.not v14 (fun v15 => pIf v15 (K1 AX.ret [vget l0 0, Value.bool false, vget l0 2] s2) (pBin Try.prog 3 BinOp.add (vget l0 2) (Value.int IntKind.i64 1) (fun v16 => K1 AX.normal [vget l0 0, vget l0 1, v16] s2)))))) (pUn UnOp.not (Value.bool false) (fun v17 => pIf v17 (K1 AX.ret [vget l0 0, Value.bool false, vget l0 2] s2) (pBin Try.prog 3 BinOp.add (vget l0 2) (Value.int IntKind.i64 1) (fun v18 => K1 AX.normal [vget l0 0, vget l0 1, v18] s2)))))))))) (pIndexStr (vget l0 0) (vget l0 2) (fun v19 => pBin Try.prog 5 BinOp.geq v19 (Value.int IntKind.u8 48) (fun v20 => pIf v20 (pIndexStr (vget l0 0) (vget l0 2) (fun v21 => pBin Try.prog 5 BinOp.leq v21 (Value.int IntKind.u8 57) (fun v22 => pUn UnOp.not v22 (fun v23 => pIf v23 (K1 AX.ret [vget l0 0, Value.bool false, vget l0 2] s2) (pBin Try.prog 3 BinOp.add (vget l0 2) (Value.int IntKind.i64 1) (fun v24 => K1 AX.normal [vget l0 0, vget l0 1, v24] s2)))))) (pUn UnOp.not (Value.bool false) (fun v25 => pIf v25 (K1 AX.ret [vget l0 0, Value.bool false, vget l0 2] s2) (pBin Try.prog 3 BinOp.add (vget l0 2) (Value.int IntKind.i64 1) (fun v26 => K1 AX.normal [vget l0 0, vget l0 1, v26] s2)))))))))) (K1 (AX.exit 0) [vget l0 0, vget l0 1, vget l0 2] s2)))) [a0, Value.bool false, Value.int IntKind.i64 0] σ (fun x27 l28 s29 => match x27 with | .normal => pLenS (vget l28 0) (fun v30 => AC Try.prog w0 n_spec_l1In [v30, Value.int IntKind.i64 1, Value.int IntKind.i64 5] s29 (fun v31 s32 => R v31 s32)) | .ret => R (vget l28 1) s29 | .exit i33 => (match Nat.beq i33 0 with | true => pLenS (vget l28 0) (fun v34 => AC Try.prog w0 n_spec_l1In [v34, Value.int IntKind.i64 1, Value.int IntKind.i64 5] s29 (fun v35 s36 => R v35 s36)) | false => False))
theorem vc_spec_l1NameOk_eq (w0 : World) (a0 : Value) (σ : Vw) (R : Value → Vw → Prop) : vc_spec_l1NameOk w0 a0 σ R = den Try.prog w0 kp_spec_l1NameOk esc_spec_l1NameOk (Try.f103.body.getD .skip) (entry Try.f103.ntmps [a0]) σ (retK Try.prog Try.f103.results.toList R) := by kernel_rfl
theorem ac_spec_l1NameOk {w0 : World} {a0 : Value} {σ : Vw} {R : Value → Vw → Prop} (h : vc_spec_l1NameOk w0 a0 σ R) : AC Try.prog w0 n_spec_l1NameOk [a0] σ R := by
  refine ac_rule (fn := Try.f103) (c := Try.f103.body.getD .skip) kp_spec_l1NameOk esc_spec_l1NameOk Try.func103 (by kernel_rfl) (by kernel_rfl) ?_
  rw [← vc_spec_l1NameOk_eq]
  exact h

/-- spec.l2PathOk -/
def kp_spec_l2PathOk : Nat → Keep
  | 2 => ⟨[0, 2, 3], [], [], .done, []⟩
  | _ => ⟨[], [], [], .done, []⟩
def esc_spec_l2PathOk : Nat → Bool
  | _ => false
def vc_spec_l2PathOk (w0 : World) (a0 : Value) (σ : Vw) (R : Value → Vw → Prop) : Prop :=
  pLoop (fun l0 K1 s2 => pLen (vget l0 0) (fun v3 => pBin Try.prog 3 BinOp.lss (vget l0 2) v3 (fun v4 => pIf v4 (pIndexAddr 1 (vget l0 0) (vget l0 2) (fun v5 => pLoad w0 1 v5 s2 (fun g6 => AC Try.prog w0 n_spec_l1NameOk [g6 0] s2 (fun v7 s8 => pUn UnOp.not v7 (fun v9 => pIf v9 (K1 AX.ret [vget l0 0, Value.bool false, vget l0 2] s8) (pBin Try.prog 3 BinOp.add (vget l0 2) (Value.int IntKind.i64 1) (fun v10 => K1 AX.normal [vget l0 0, vget l0 1, v10] s8))))))) (K1 (AX.exit 0) [vget l0 0, vget l0 1, vget l0 2] s2)))) [a0, Value.bool false, Value.int IntKind.i64 0] σ (fun x11 l12 s13 => match x11 with | .normal => pLen (vget l12 0) (fun v14 => AC Try.prog w0 n_spec_l1In [v14, Value.int IntKind.i64 1, Value.int IntKind.i64 4] s13 (fun v15 s16 => R v15 s16)) | .ret => R (vget l12 1) s13 | .exit i17 => (match Nat.beq i17 0 with | true => pLen (vget l12 0) (fun v18 => AC Try.prog w0 n_spec_l1In [v18, Value.int IntKind.i64 1, Value.int IntKind.i64 4] s13 (fun v19 s20 => R v19 s20)) | false => False))
theorem vc_spec_l2PathOk_eq (w0 : World) (a0 : Value) (σ : Vw) (R : Value → Vw → Prop) : vc_spec_l2PathOk w0 a0 σ R = den Try.prog w0 kp_spec_l2PathOk esc_spec_l2PathOk (Try.f104.body.getD .skip) (entry Try.f104.ntmps [a0]) σ (retK Try.prog Try.f104.results.toList R) := by kernel_rfl
theorem ac_spec_l2PathOk {w0 : World} {a0 : Value} {σ : Vw} {R : Value → Vw → Prop} (h : vc_spec_l2PathOk w0 a0 σ R) : AC Try.prog w0 n_spec_l2PathOk [a0] σ R := by
  refine ac_rule (fn := Try.f104) (c := Try.f104.body.getD .skip) kp_spec_l2PathOk esc_spec_l2PathOk Try.func104 (by kernel_rfl) (by kernel_rfl) ?_
  rw [← vc_spec_l2PathOk_eq]
  exact h

/-- impl.namesOk -/
def kp_impl_namesOk : Nat → Keep
  | 2 => ⟨[0, 1, 4, 7, 8, 9], [], [], .done, []⟩
  | _ => ⟨[], [], [], .done, []⟩
def esc_impl_namesOk : Nat → Bool
  | _ => false
def vc_impl_namesOk (w0 : World) (a0 a1 : Value) (σ : Vw) (R : Value → Vw → Prop) : Prop :=
  pLen a0 (fun v0 => pLoop (fun l1 K2 s3 => pBin Try.prog 3 BinOp.lss (vget l1 5) (vget l1 4) (fun v4 => pIf v4 (pIndexAddr 1 (vget l1 3) (vget l1 5) (fun v5 => pLoad w0 1 v5 s3 (fun g6 => AC Try.prog w0 n_impl_nameOk [g6 0] s3 (fun v7 s8 => pUn UnOp.not v7 (fun v9 => pIf v9 (K2 AX.ret [vget l1 0, vget l1 1, Value.bool false, vget l1 3, vget l1 4, vget l1 5] s8) (pBin Try.prog 3 BinOp.add (vget l1 5) (Value.int IntKind.i64 1) (fun v10 => K2 AX.normal [vget l1 0, vget l1 1, vget l1 2, vget l1 3, vget l1 4, v10] s8))))))) (K2 (AX.exit 0) [vget l1 0, vget l1 1, vget l1 2, vget l1 3, vget l1 4, vget l1 5] s3))) [a0, a1, Value.bool false, a0, v0, Value.int IntKind.i64 0] σ (fun x11 l12 s13 => match x11 with | .normal => pLen (vget l12 0) (fun v14 => AC Try.prog w0 n_impl_within [v14, vget l12 1, Value.int IntKind.i64 4] s13 (fun v15 s16 => R v15 s16)) | .ret => R (vget l12 2) s13 | .exit i17 => (match Nat.beq i17 0 with | true => pLen (vget l12 0) (fun v18 => AC Try.prog w0 n_impl_within [v18, vget l12 1, Value.int IntKind.i64 4] s13 (fun v19 s20 => R v19 s20)) | false => False)))
theorem vc_impl_namesOk_eq (w0 : World) (a0 a1 : Value) (σ : Vw) (R : Value → Vw → Prop) : vc_impl_namesOk w0 a0 a1 σ R = den Try.prog w0 kp_impl_namesOk esc_impl_namesOk (Try.f105.body.getD .skip) (entry Try.f105.ntmps [a0, a1]) σ (retK Try.prog Try.f105.results.toList R) := by kernel_rfl
theorem ac_impl_namesOk {w0 : World} {a0 a1 : Value} {σ : Vw} {R : Value → Vw → Prop} (h : vc_impl_namesOk w0 a0 a1 σ R) : AC Try.prog w0 n_impl_namesOk [a0, a1] σ R := by
  refine ac_rule (fn := Try.f105) (c := Try.f105.body.getD .skip) kp_impl_namesOk esc_impl_namesOk Try.func105 (by kernel_rfl) (by kernel_rfl) ?_
  rw [← vc_impl_namesOk_eq]
  exact h

/-- cmp.Compare[string] -/
def kp_cmp_Compare_string : Nat → Keep
  | _ => ⟨[], [], [], .done, []⟩
def esc_cmp_Compare_string : Nat → Bool
  | _ => false
def vc_cmp_Compare_string (w0 : World) (a0 a1 : Value) (σ : Vw) (R : Value → Vw → Prop) : Prop :=
  AC Try.prog w0 n_cmp_isNaN_string [a0] σ (fun v0 s1 => AC Try.prog w0 n_cmp_isNaN_string [a1] s1 (fun v2 s3 => pIf v0 (pIf v2 (R (Value.int IntKind.i64 0) s3) (R (Value.int IntKind.i64 (-1)) s3)) (pIf v2 (R (Value.int IntKind.i64 1) s3) (pBin Try.prog 9 BinOp.lss a0 a1 (fun v4 => pIf v4 (R (Value.int IntKind.i64 (-1)) s3) (pBin Try.prog 9 BinOp.gtr a0 a1 (fun v5 => pIf v5 (R (Value.int IntKind.i64 1) s3) (R (Value.int IntKind.i64 0) s3))))))))
theorem vc_cmp_Compare_string_eq (w0 : World) (a0 a1 : Value) (σ : Vw) (R : Value → Vw → Prop) : vc_cmp_Compare_string w0 a0 a1 σ R = den Try.prog w0 kp_cmp_Compare_string esc_cmp_Compare_string (Try.f106.body.getD .skip) (entry Try.f106.ntmps [a0, a1]) σ (retK Try.prog Try.f106.results.toList R) := by kernel_rfl
theorem ac_cmp_Compare_string {w0 : World} {a0 a1 : Value} {σ : Vw} {R : Value → Vw → Prop} (h : vc_cmp_Compare_string w0 a0 a1 σ R) : AC Try.prog w0 n_cmp_Compare_string [a0, a1] σ R := by
  refine ac_rule (fn := Try.f106) (c := Try.f106.body.getD .skip) kp_cmp_Compare_string esc_cmp_Compare_string Try.func106 (by kernel_rfl) (by kernel_rfl) ?_
  rw [← vc_cmp_Compare_string_eq]
  exact h

/-- impl.begins -/
def kp_impl_begins : Nat → Keep
  | 4 => ⟨[0, 1, 4, 12, 13], [], [], .done, []⟩
  | 6 => ⟨[], [], [], .step 0 (.step 1 (.step 2 (.step 3 (.step 4 (.step 5 (.step 6 (.step 7 (.step 8 (.done))))))))), [(2, [0, 1]), (3, [0, 1, 2]), (6, [4, 5]), (7, [4, 5, 6]), (8, [0, 1, 2, 3, 4, 5, 6, 7])]⟩
  | _ => ⟨[], [], [], .done, []⟩
def esc_impl_begins : Nat → Bool
  | _ => false
def vc_impl_begins (w0 : World) (a0 a1 : Value) (σ : Vw) (R : Value → Vw → Prop) : Prop :=
  pLen a0 (fun v0 => pLen a1 (fun v1 => pBin Try.prog 3 BinOp.lss v0 v1 (fun v2 => pIf v2 (R (Value.bool false) σ) (pLen a1 (fun v3 => pLoop (fun l4 K5 s6 => pBin Try.prog 3 BinOp.lss (vget l4 4) (vget l4 3) (fun v7 => pIf v7 (pIndexAddr 1 (vget l4 0) (vget l4 4) (fun v8 => pLoad w0 1 v8 s6 (fun g9 => pIndexAddr 1 (vget l4 1) (vget l4 4) (fun v10 => pLoad w0 1 v10 s6 (fun g11 => pBin Try.prog 9 BinOp.neq (g9 0) (g11 0) (fun v12 => pIf v12 (K5 AX.ret [vget l4 0, vget l4 1, Value.bool false, vget l4 3, vget l4 4] s6) (pBin Try.prog 3 BinOp.add (vget l4 4) (Value.int IntKind.i64 1) (fun v13 => K5 AX.normal [vget l4 0, vget l4 1, vget l4 2, vget l4 3, v13] s6)))))))) (K5 (AX.exit 0) [vget l4 0, vget l4 1, vget l4 2, vget l4 3, vget l4 4] s6))) [a0, a1, Value.bool false, v3, Value.int IntKind.i64 0] σ (fun x14 l15 s16 => match x14 with | .normal => R (Value.bool true) s16 | .ret => R (vget l15 2) s16 | .exit i17 => (match Nat.beq i17 0 with | true => R (Value.bool true) s16 | false => False)))))))
theorem vc_impl_begins_eq (w0 : World) (a0 a1 : Value) (σ : Vw) (R : Value → Vw → Prop) : vc_impl_begins w0 a0 a1 σ R = den Try.prog w0 kp_impl_begins esc_impl_begins (Try.f107.body.getD .skip) (entry Try.f107.ntmps [a0, a1]) σ (retK Try.prog Try.f107.results.toList R) := by kernel_rfl
theorem ac_impl_begins {w0 : World} {a0 a1 : Value} {σ : Vw} {R : Value → Vw → Prop} (h : vc_impl_begins w0 a0 a1 σ R) : AC Try.prog w0 n_impl_begins [a0, a1] σ R := by
  refine ac_rule (fn := Try.f107) (c := Try.f107.body.getD .skip) kp_impl_begins esc_impl_begins Try.func107 (by kernel_rfl) (by kernel_rfl) ?_
  rw [← vc_impl_begins_eq]
  exact h

/-- spec.l11Same -/
def kp_spec_l11Same : Nat → Keep
  | _ => ⟨[], [], [], .done, []⟩
def esc_spec_l11Same : Nat → Bool
  | _ => false
def vc_spec_l11Same (w0 : World) (a0 a1 : Value) (σ : Vw) (R : Value → Vw → Prop) : Prop :=
  pLen a0 (fun v0 => pLen a1 (fun v1 => pBin Try.prog 3 BinOp.eql v0 v1 (fun v2 => pIf v2 (AC Try.prog w0 n_spec_l2Within [a0, a1] σ (fun v3 s4 => R v3 s4)) (R (Value.bool false) σ))))
theorem vc_spec_l11Same_eq (w0 : World) (a0 a1 : Value) (σ : Vw) (R : Value → Vw → Prop) : vc_spec_l11Same w0 a0 a1 σ R = den Try.prog w0 kp_spec_l11Same esc_spec_l11Same (Try.f110.body.getD .skip) (entry Try.f110.ntmps [a0, a1]) σ (retK Try.prog Try.f110.results.toList R) := by kernel_rfl
theorem ac_spec_l11Same {w0 : World} {a0 a1 : Value} {σ : Vw} {R : Value → Vw → Prop} (h : vc_spec_l11Same w0 a0 a1 σ R) : AC Try.prog w0 n_spec_l11Same [a0, a1] σ R := by
  refine ac_rule (fn := Try.f110) (c := Try.f110.body.getD .skip) kp_spec_l11Same esc_spec_l11Same Try.func110 (by kernel_rfl) (by kernel_rfl) ?_
  rw [← vc_spec_l11Same_eq]
  exact h

/-- slices.ContainsFunc[[]impl.Mark,impl.Mark] -/
def kp_slices_ContainsFunc_impl_Mark_impl_Mark : Nat → Keep
  | _ => ⟨[], [], [], .done, []⟩
def esc_slices_ContainsFunc_impl_Mark_impl_Mark : Nat → Bool
  | _ => false
def vc_slices_ContainsFunc_impl_Mark_impl_Mark (w0 : World) (a0 a1 : Value) (σ : Vw) (R : Value → Vw → Prop) : Prop :=
  AC Try.prog w0 n_slices_IndexFunc_impl_Mark_impl_Mark [a0, a1] σ (fun v0 s1 => pBin Try.prog 3 BinOp.geq v0 (Value.int IntKind.i64 0) (fun v2 => R v2 s1))
theorem vc_slices_ContainsFunc_impl_Mark_impl_Mark_eq (w0 : World) (a0 a1 : Value) (σ : Vw) (R : Value → Vw → Prop) : vc_slices_ContainsFunc_impl_Mark_impl_Mark w0 a0 a1 σ R = den Try.prog w0 kp_slices_ContainsFunc_impl_Mark_impl_Mark esc_slices_ContainsFunc_impl_Mark_impl_Mark (Try.f111.body.getD .skip) (entry Try.f111.ntmps [a0, a1]) σ (retK Try.prog Try.f111.results.toList R) := by kernel_rfl
theorem ac_slices_ContainsFunc_impl_Mark_impl_Mark {w0 : World} {a0 a1 : Value} {σ : Vw} {R : Value → Vw → Prop} (h : vc_slices_ContainsFunc_impl_Mark_impl_Mark w0 a0 a1 σ R) : AC Try.prog w0 n_slices_ContainsFunc_impl_Mark_impl_Mark [a0, a1] σ R := by
  refine ac_rule (fn := Try.f111) (c := Try.f111.body.getD .skip) kp_slices_ContainsFunc_impl_Mark_impl_Mark esc_slices_ContainsFunc_impl_Mark_impl_Mark Try.func111 (by kernel_rfl) (by kernel_rfl) ?_
  rw [← vc_slices_ContainsFunc_impl_Mark_impl_Mark_eq]
  exact h

/-- impl.marked$1 -/
def kp_impl_marked_c1 : Nat → Keep
  | _ => ⟨[], [], [], .done, []⟩
def esc_impl_marked_c1 : Nat → Bool
  | _ => false
def vc_impl_marked_c1 (w0 : World) (a0 a1 : Value) (σ : Vw) (R : Value → Vw → Prop) : Prop :=
  pVal true 2 a0 (pLoad w0 1 a1 σ (fun g0 => AC Try.prog w0 n_slices_Equal_string_string [cellOf a0 0, g0 0] σ (fun v1 s2 => R v1 s2)))
theorem vc_impl_marked_c1_eq (w0 : World) (a0 a1 : Value) (σ : Vw) (R : Value → Vw → Prop) : vc_impl_marked_c1 w0 a0 a1 σ R = den Try.prog w0 kp_impl_marked_c1 esc_impl_marked_c1 (Try.f112.body.getD .skip) (entry Try.f112.ntmps [a0, a1]) σ (retK Try.prog Try.f112.results.toList R) := by kernel_rfl
theorem ac_impl_marked_c1 {w0 : World} {a0 a1 : Value} {σ : Vw} {R : Value → Vw → Prop} (h : vc_impl_marked_c1 w0 a0 a1 σ R) : AC Try.prog w0 n_impl_marked_c1 [a0, a1] σ R := by
  refine ac_rule (fn := Try.f112) (c := Try.f112.body.getD .skip) kp_impl_marked_c1 esc_impl_marked_c1 Try.func112 (by kernel_rfl) (by kernel_rfl) ?_
  rw [← vc_impl_marked_c1_eq]
  exact h

/-- slices.Equal[[]string,string] -/
def kp_slices_Equal_string_string : Nat → Keep
  | 4 => ⟨[0, 1, 4, 12, 13], [], [], .done, []⟩
  | 6 => ⟨[], [], [], .step 0 (.step 1 (.step 2 (.step 3 (.step 4 (.step 5 (.step 6 (.step 7 (.step 8 (.done))))))))), [(2, [0, 1]), (3, [0, 1, 2]), (6, [4, 5]), (7, [4, 5, 6]), (8, [0, 1, 2, 3, 4, 5, 6, 7])]⟩
  | _ => ⟨[], [], [], .done, []⟩
def esc_slices_Equal_string_string : Nat → Bool
  | _ => false
def vc_slices_Equal_string_string (w0 : World) (a0 a1 : Value) (σ : Vw) (R : Value → Vw → Prop) : Prop :=
  pLen a0 (fun v0 => pLen a1 (fun v1 => pBin Try.prog 3 BinOp.neq v0 v1 (fun v2 => pIf v2 (R (Value.bool false) σ) (pLen a0 (fun v3 => pLoop (fun l4 K5 s6 => pBin Try.prog 3 BinOp.lss (vget l4 4) (vget l4 3) (fun v7 => pIf v7 (pIndexAddr 1 (vget l4 0) (vget l4 4) (fun v8 => pLoad w0 1 v8 s6 (fun g9 => pIndexAddr 1 (vget l4 1) (vget l4 4) (fun v10 => pLoad w0 1 v10 s6 (fun g11 => pBin Try.prog 9 BinOp.neq (g9 0) (g11 0) (fun v12 => pIf v12 (K5 AX.ret [vget l4 0, vget l4 1, Value.bool false, vget l4 3, vget l4 4] s6) (pBin Try.prog 3 BinOp.add (vget l4 4) (Value.int IntKind.i64 1) (fun v13 => K5 AX.normal [vget l4 0, vget l4 1, vget l4 2, vget l4 3, v13] s6)))))))) (K5 (AX.exit 0) [vget l4 0, vget l4 1, vget l4 2, vget l4 3, vget l4 4] s6))) [a0, a1, Value.bool false, v3, Value.int IntKind.i64 0] σ (fun x14 l15 s16 => match x14 with | .normal => R (Value.bool true) s16 | .ret => R (vget l15 2) s16 | .exit i17 => (match Nat.beq i17 0 with | true => R (Value.bool true) s16 | false => False)))))))
theorem vc_slices_Equal_string_string_eq (w0 : World) (a0 a1 : Value) (σ : Vw) (R : Value → Vw → Prop) : vc_slices_Equal_string_string w0 a0 a1 σ R = den Try.prog w0 kp_slices_Equal_string_string esc_slices_Equal_string_string (Try.f113.body.getD .skip) (entry Try.f113.ntmps [a0, a1]) σ (retK Try.prog Try.f113.results.toList R) := by kernel_rfl
theorem ac_slices_Equal_string_string {w0 : World} {a0 a1 : Value} {σ : Vw} {R : Value → Vw → Prop} (h : vc_slices_Equal_string_string w0 a0 a1 σ R) : AC Try.prog w0 n_slices_Equal_string_string [a0, a1] σ R := by
  refine ac_rule (fn := Try.f113) (c := Try.f113.body.getD .skip) kp_slices_Equal_string_string esc_slices_Equal_string_string Try.func113 (by kernel_rfl) (by kernel_rfl) ?_
  rw [← vc_slices_Equal_string_string_eq]
  exact h

end Go.Proofs.Ytkbhjejalkbogaa

/- What each function owes, reckoned out, part 4. MADE BY PROGRAM (emit.py). -/
set_option linter.unusedVariables false
namespace Go.Proofs.Ytkbhjejalkbogaa
open Go Go.Av

/-- impl.within -/
def kp_impl_within : Nat → Keep
  | _ => ⟨[], [], [], .done, []⟩
def esc_impl_within : Nat → Bool
  | _ => false
def vc_impl_within (w0 : World) (a0 a1 a2 : Value) (σ : Vw) (R : Value → Vw → Prop) : Prop :=
  pBin Try.prog 3 BinOp.geq a0 a1 (fun v0 => pIf v0 (pBin Try.prog 3 BinOp.leq a0 a2 (fun v1 => R v1 σ)) (R (Value.bool false) σ))
theorem vc_impl_within_eq (w0 : World) (a0 a1 a2 : Value) (σ : Vw) (R : Value → Vw → Prop) : vc_impl_within w0 a0 a1 a2 σ R = den Try.prog w0 kp_impl_within esc_impl_within (Try.f118.body.getD .skip) (entry Try.f118.ntmps [a0, a1, a2]) σ (retK Try.prog Try.f118.results.toList R) := by kernel_rfl
theorem ac_impl_within {w0 : World} {a0 a1 a2 : Value} {σ : Vw} {R : Value → Vw → Prop} (h : vc_impl_within w0 a0 a1 a2 σ R) : AC Try.prog w0 n_impl_within [a0, a1, a2] σ R := by
  refine ac_rule (fn := Try.f118) (c := Try.f118.body.getD .skip) kp_impl_within esc_impl_within Try.func118 (by kernel_rfl) (by kernel_rfl) ?_
  rw [← vc_impl_within_eq]
  exact h

/-- cmp.isNaN[string] -/
def kp_cmp_isNaN_string : Nat → Keep
  | _ => ⟨[], [], [], .done, []⟩
def esc_cmp_isNaN_string : Nat → Bool
  | _ => false
def vc_cmp_isNaN_string (w0 : World) (a0 : Value) (σ : Vw) (R : Value → Vw → Prop) : Prop :=
  pBin Try.prog 9 BinOp.neq a0 a0 (fun v0 => R v0 σ)
theorem vc_cmp_isNaN_string_eq (w0 : World) (a0 : Value) (σ : Vw) (R : Value → Vw → Prop) : vc_cmp_isNaN_string w0 a0 σ R = den Try.prog w0 kp_cmp_isNaN_string esc_cmp_isNaN_string (Try.f119.body.getD .skip) (entry Try.f119.ntmps [a0]) σ (retK Try.prog Try.f119.results.toList R) := by kernel_rfl
theorem ac_cmp_isNaN_string {w0 : World} {a0 : Value} {σ : Vw} {R : Value → Vw → Prop} (h : vc_cmp_isNaN_string w0 a0 σ R) : AC Try.prog w0 n_cmp_isNaN_string [a0] σ R := by
  refine ac_rule (fn := Try.f119) (c := Try.f119.body.getD .skip) kp_cmp_isNaN_string esc_cmp_isNaN_string Try.func119 (by kernel_rfl) (by kernel_rfl) ?_
  rw [← vc_cmp_isNaN_string_eq]
  exact h

/-- slices.IndexFunc[[]impl.Mark,impl.Mark] -/
def kp_slices_IndexFunc_impl_Mark_impl_Mark : Nat → Keep
  | 2 => ⟨[0, 1, 4, 7, 8], [], [], .done, []⟩
  | _ => ⟨[], [], [], .done, []⟩
def esc_slices_IndexFunc_impl_Mark_impl_Mark : Nat → Bool
  | _ => false
def vc_slices_IndexFunc_impl_Mark_impl_Mark (w0 : World) (a0 a1 : Value) (σ : Vw) (R : Value → Vw → Prop) : Prop :=
  pLen a0 (fun v0 => pLoop (fun l1 K2 s3 => pBin Try.prog 3 BinOp.lss (vget l1 4) (vget l1 3) (fun v4 => pIf v4 (pIndexAddr 2 (vget l1 0) (vget l1 4) (fun v5 => pLoad w0 2 v5 s3 (fun g6 => pCallV (fun n7 l8 s9 K10 => AC Try.prog w0 n7 l8 s9 K10) (vget l1 1) ([Value.agg (⟨[g6 0, g6 1]⟩)]) s3 (fun v11 s12 => pIf v11 (K2 AX.ret [vget l1 0, vget l1 1, vget l1 4, vget l1 3, vget l1 4] s12) (pBin Try.prog 3 BinOp.add (vget l1 4) (Value.int IntKind.i64 1) (fun v13 => K2 AX.normal [vget l1 0, vget l1 1, vget l1 2, vget l1 3, v13] s12)))))) (K2 (AX.exit 0) [vget l1 0, vget l1 1, vget l1 2, vget l1 3, vget l1 4] s3))) [a0, a1, Value.int IntKind.i64 0, v0, Value.int IntKind.i64 0] σ (fun x14 l15 s16 => match x14 with | .normal => R (Value.int IntKind.i64 (-1)) s16 | .ret => R (vget l15 2) s16 | .exit i17 => (match Nat.beq i17 0 with | true => R (Value.int IntKind.i64 (-1)) s16 | false => False)))
theorem vc_slices_IndexFunc_impl_Mark_impl_Mark_eq (w0 : World) (a0 a1 : Value) (σ : Vw) (R : Value → Vw → Prop) : vc_slices_IndexFunc_impl_Mark_impl_Mark w0 a0 a1 σ R = den Try.prog w0 kp_slices_IndexFunc_impl_Mark_impl_Mark esc_slices_IndexFunc_impl_Mark_impl_Mark (Try.f122.body.getD .skip) (entry Try.f122.ntmps [a0, a1]) σ (retK Try.prog Try.f122.results.toList R) := by kernel_rfl
theorem ac_slices_IndexFunc_impl_Mark_impl_Mark {w0 : World} {a0 a1 : Value} {σ : Vw} {R : Value → Vw → Prop} (h : vc_slices_IndexFunc_impl_Mark_impl_Mark w0 a0 a1 σ R) : AC Try.prog w0 n_slices_IndexFunc_impl_Mark_impl_Mark [a0, a1] σ R := by
  refine ac_rule (fn := Try.f122) (c := Try.f122.body.getD .skip) kp_slices_IndexFunc_impl_Mark_impl_Mark esc_slices_IndexFunc_impl_Mark_impl_Mark Try.func122 (by kernel_rfl) (by kernel_rfl) ?_
  rw [← vc_slices_IndexFunc_impl_Mark_impl_Mark_eq]
  exact h

end Go.Proofs.Ytkbhjejalkbogaa

/- What each function owes, reckoned out, part 5. MADE BY PROGRAM (emit.py). -/
set_option linter.unusedVariables false
namespace Go.Proofs.Ytkbhjejalkbogaa
open Go Go.Av

end Go.Proofs.Ytkbhjejalkbogaa

/- What each function owes: all parts. MADE BY PROGRAM (emit.py). -/


/- The lists of texts: their size, their copy, their comparison. -/
set_option linter.unusedVariables false
set_option linter.unusedSimpArgs false
namespace Go.Proofs.Ytkbhjejalkbogaa
open Go Go.Av

section
variable {w0 : World} {σ : Vw}

def sumS : List ByteArray → Nat
  | [] => 0
  | s :: r => s.size + sumS r
theorem sumS_take {xs : List ByteArray} : ∀ {j : Nat} {x : ByteArray}, xs[j]? = some x → sumS (xs.take (j + 1)) = sumS (xs.take j) + x.size := by
  induction xs with
  | nil => intro j x h; simp at h
  | cons a r ih =>
    intro j x h
    cases j with
    | zero => simp at h; subst h; simp [sumS]
    | succ j =>
      simp at h
      have := ih h
      simp only [List.take_succ_cons, sumS, this]
      omega
theorem sumS_le {xs : List ByteArray} : ∀ (j : Nat), sumS (xs.take j) ≤ sumS xs := by
  induction xs with
  | nil => intro j; simp [sumS]
  | cons a r ih =>
    intro j
    cases j with
    | zero => simp [sumS]
    | succ j => have := ih j; simp only [List.take_succ_cons, sumS]; omega

/-- What is left of n. -/
def left (n : Int) (t : Nat) : Int := if n - t < 0 then -1 else n - t

theorem szStringS {v : Value} {xs : List ByteArray} {n : Int} (h : RSl 1 RS (Av.get w0 σ) v xs) (hn : 0 ≤ n ∧ n ≤ 9223372036854775807) {R : Value → Vw → Prop} (hR : R (.int .i64 (left n (xs.length + sumS xs))) σ) : AC Try.prog w0 n_laws_szStringS [v, .int .i64 n] σ R := by
  refine ac_laws_szStringS ?_
  unfold vc_laws_szStringS
  have hl : xs.length ≤ 9223372036854775807 := by obtain ⟨_, _, _, h2, _⟩ := h; exact Nat.le_trans h2.1 h2.2
  rw [h.len, pBin_sub (by omega), pBin_lt, pIf_d]
  refine ⟨fun hlt => ?_, fun hge => ?_⟩
  · have : left n (xs.length + sumS xs) = -1 := by unfold left; rw [if_pos (by omega)]
    rw [this] at hR; exact hR
  · refine loop_rule (m := xs.length) (fun m l s => ∃ j, s = σ ∧ m + j = xs.length ∧ 0 ≤ n - xs.length - sumS (xs.take j) ∧ l = [v, .int .i64 (n - xs.length - sumS (xs.take j)), .int .i64 0, .int .i64 (j : Nat)]) ?_ ⟨0, rfl, by omega, by simp [sumS]; omega, by simp [sumS]⟩
    rintro m l s L ⟨j, rfl, hm, h0, rfl⟩ hL
    simp only [vget, List.getD_cons_zero, List.getD_cons_succ]
    rw [h.len, pBin_lt, pIf_d]
    refine ⟨fun hj => ?_, fun hj => ?_⟩
    · have hj' : j < xs.length := by omega
      have hx := List.getElem?_eq_getElem hj'
      refine h.at hx fun g hg => ?_
      obtain ⟨hg, hs⟩ := hg
      simp only [expl, List.cons.injEq, and_true] at hg
      have ht := sumS_take hx
      have hle := sumS_le (xs := xs) (j + 1)
      rw [hg, pLenS_s, pBin_sub (by omega), pBin_lt, pIf_d]
      refine ⟨fun hlt => ?_, fun hge => ?_⟩
      · have : left n (xs.length + sumS xs) = -1 := by unfold left; rw [if_pos (by omega)]
        rw [this] at hR; exact hR
      · rw [pBin_add (by omega)]
        refine hL _ _ (m - 1) (by omega) ⟨j + 1, rfl, by omega, by omega, ?_⟩
        rw [ht]
        congr 2
        · congr 1; omega
    · have hj' : j = xs.length := by omega
      subst hj'
      rw [List.take_length] at h0 ⊢
      have : left n (xs.length + sumS xs) = n - xs.length - sumS xs := by unfold left; rw [if_neg (by omega)]; omega
      rw [this] at hR
      exact hR
end
end Go.Proofs.Ytkbhjejalkbogaa

/- The lists of texts: their copy, their comparison. -/
set_option linter.unusedVariables false
set_option linter.unusedSimpArgs false
namespace Go.Proofs.Ytkbhjejalkbogaa
open Go Go.Av

section
variable {w0 : World} {σ : Vw}


theorem toStringS {v : Value} {xs : List ByteArray} (h : RSl 1 RS (Av.get w0 σ) v xs) (hb : xs.length ≤ 1000000000000) {R : Value → Vw → Prop}
    (hR : ∀ b ety, w0.heap.size ≤ b → σ b = none → R (.slice (some ⟨b, 0, none⟩) xs.length xs.length) (σ.put b ⟨ety, xs.map .string, xs.length, (0, 0)⟩)) : AC Try.prog w0 n_laws_toStringS [v] σ R := by
  refine ac_laws_toStringS ?_
  unfold vc_laws_toStringS
  rw [h.len]
  refine pMake_s (by omega) (by omega) fun b ety h1 h2 => ?_
  refine loop_rule (m := xs.length) (fun m l s => ∃ j, m + j = xs.length ∧ s = σ.put b ⟨ety, (xs.take j).map .string ++ List.replicate m (.string ⟨#[]⟩), xs.length * 1, (0, 0)⟩ ∧ l = [v, .slice (some ⟨b, 0, none⟩) xs.length xs.length, .int .i64 (j : Nat)]) ?_ ⟨0, by omega, by simp, rfl⟩
  rintro m l s L ⟨j, hm, rfl, rfl⟩ hL
  simp only [vget, List.getD_cons_zero, List.getD_cons_succ]
  rw [h.len, pBin_lt, pIf_d]
  refine ⟨fun hj => ?_, fun hj => ?_⟩
  · have hj' : j < xs.length := by omega
    have hx := List.getElem?_eq_getElem hj'
    refine RSl.at (h.mono (Keeps.put h2).le fun _ _ h => h) hx fun g hg => ?_
    obtain ⟨hg, hs⟩ := hg
    simp only [expl, List.cons.injEq, and_true] at hg
    obtain ⟨m', rfl⟩ : ∃ m', m = m' + 1 := ⟨m - 1, by omega⟩
    rw [hg]
    have e1 : ∀ A : Prop, pVal false 1 (.string xs[j]) A = A := fun A => propext (pVal1 rfl)
    simp only [e1]
    refine own_store (r := ⟨ety, (xs.take j).map .string ++ List.replicate (m' + 1) (.string ⟨#[]⟩), xs.length * 1, (0, 0)⟩) (A := (xs.take j).map .string) (old := [.string ⟨#[]⟩]) (new := [.string xs[j]]) (C := List.replicate m' (.string ⟨#[]⟩)) put_at (by simp [List.replicate_succ]) (by simp; omega) rfl rfl hj' ?_
    rw [pBin_add (by omega)]
    refine hL _ _ m' rfl ⟨j + 1, by omega, ?_, rfl⟩
    rw [put_put, List.take_add_one, hx]
    simp only [Option.toList_some, List.map_append, List.map_cons, List.map_nil, List.append_assoc]
  · have hj' : j = xs.length := by omega
    subst hj'
    have : m = 0 := by omega
    subst this
    have := hR b ety h1 h2
    simpa using this

theorem eqStringS {v v' : Value} {xs ys : List ByteArray} (h : RSl 1 RS (Av.get w0 σ) v xs) (h' : RSl 1 RS (Av.get w0 σ) v' ys) {R : Value → Vw → Prop} (hR : R (.bool (decide (xs = ys))) σ) : AC Try.prog w0 n_laws_eqStringS [v, v'] σ R := by
  refine ac_laws_eqStringS ?_
  unfold vc_laws_eqStringS
  have hl : xs.length ≤ 9223372036854775807 := by obtain ⟨_, _, _, h2, _⟩ := h; exact Nat.le_trans h2.1 h2.2
  rw [h.len, h'.len, pBin_ne, pIf_d]
  refine ⟨fun hne => ?_, fun heq => ?_⟩
  · have : xs ≠ ys := fun e => hne (by rw [e])
    simpa [this] using hR
  · have hlen : xs.length = ys.length := by omega
    refine loop_rule (m := xs.length) (fun m l s => ∃ j, s = σ ∧ m + j = xs.length ∧ xs.take j = ys.take j ∧ l = [v, v', .bool false, .int .i64 (j : Nat)]) ?_ ⟨0, rfl, by omega, by simp, rfl⟩
    rintro m l s L ⟨j, rfl, hm, ht, rfl⟩ hL
    simp only [vget, List.getD_cons_zero, List.getD_cons_succ]
    rw [h.len, pBin_lt, pIf_d]
    refine ⟨fun hj => ?_, fun hj => ?_⟩
    · have hj' : j < xs.length := by omega
      have hx := List.getElem?_eq_getElem hj'
      have hy := List.getElem?_eq_getElem (show j < ys.length by omega)
      refine h.at hx fun g hg => ?_
      obtain ⟨hg, hs⟩ := hg
      simp only [expl, List.cons.injEq, and_true] at hg
      refine h'.at hy fun g' hg' => ?_
      obtain ⟨hg', hs'⟩ := hg'
      simp only [expl, List.cons.injEq, and_true] at hg'
      rw [hg, hg', pBin_sne, pIf_d]
      refine ⟨fun hne => ?_, fun heq => ?_⟩
      · have : xs ≠ ys := fun e => by subst e; exact hne rfl
        simpa [this] using hR
      · rw [pBin_add (by omega)]
        have heq' : xs[j] = ys[j] := Decidable.not_not.1 heq
        refine hL _ _ (m - 1) (by omega) ⟨j + 1, rfl, by omega, ?_, rfl⟩
        rw [List.take_add_one, List.take_add_one, hx, hy, ht, heq']
    · have hj' : j = xs.length := by omega
      subst hj'
      rw [List.take_length, hlen, List.take_length] at ht
      subst ht
      simpa using hR
end
end Go.Proofs.Ytkbhjejalkbogaa
