/- The abstract layer, part 1: what is known of slots, of the frame's own boxes and of the rows that a call has made; the operations as conditions on these. -/
import Derived.WalkKit
import Derived.OrdersHeld
import Derived.KernelRfl
import Derived.Laws.BytesArg
set_option linter.unusedVariables false
namespace Go.Av
open Go Go.RowKit

/-- What is known of a slot: a value; a bool that is written out; an address in a box of the frame's own (box k, cell j); a slice over all of such a box; nothing; that it was never reckoned. -/
inductive TV where
  | val (v : Value)
  | lit (b : Bool)
  | lp (k j : Nat)
  | ls (k n : Nat)
  | unk
  | und

def VT (β : Nat → Nat) : TV → Value → Prop
  | .val u, v => v = u
  | .lit b, v => v = .bool b
  | .lp k j, v => v = .pointer (some ⟨β k, j, none⟩)
  | .ls k n, v => v = .slice (some ⟨β k, 0, none⟩) n n
  | .unk, _ => True
  | .und, v => v = undef

/-- A row that this call, or one that called it, has made: its element type, its first cells, how many cells it has. -/
structure Row where
  ety : Nat
  cells : List Value
  cap : Nat
  fz : Nat × Nat := (0, 0)

abbrev Vw := Nat → Option Row

def Vw.put (σ : Vw) (b : Nat) (r : Row) : Vw := fun i => if i = b then some r else σ i

/-- A cell, as the view has it: of old memory as it was at the beginning, of the rows what the view says. -/
def get (w0 : World) (σ : Vw) (a : Addr) : Option Value :=
  if a.block < w0.heap.size then w0.cell? a else if a.spot = none then (σ a.block).bind (·.cells[a.off]?) else none

structure St where
  tmps : List TV
  bx : Nat → Option (List Value)

/-- What an operation does to the frame's own boxes. -/
abbrev Eff := Option (Nat × List Value)

def St.eff (st : St) : Eff → St
  | none => st
  | some (k, cs) => { st with bx := fun i => bif Nat.beq k i then some cs else st.bx i }

def ofConst : Value → TV
  | .bool b => .lit b
  | v => .val v

def ev (st : St) : Operand → TV
  | .tmp t => st.tmps.getD t .unk
  | .const v => ofConst v
  | .func f => .val (.func (.func f) #[] #[])
  | .global g => .val (.pointer (some ⟨g, 0, none⟩))

def toV : TV → Option Value
  | .val v => some v
  | .lit b => some (.bool b)
  | _ => none

def putT (st : St) (dst : Option Tmp) (x : TV) : St :=
  match dst with
  | some d => { st with tmps := st.tmps.set d x }
  | none => st

/-- A list written out. -/
def expl (f : Nat → Value) : Nat → Nat → List Value
  | _, 0 => []
  | i, n + 1 => f i :: expl f (i + 1) n

def cellsL (v : Value) : List Value := v.cells.toList

def mkVal (agg : Bool) (cs : List Value) : Value :=
  match agg with
  | true => .agg ⟨cs⟩
  | false => cs.headD undef

def setAt : List Value → Nat → List Value → List Value
  | cs, _, [] => cs
  | cs, j, v :: r => setAt (cs.set j v) (j + 1) r

/-! ### The operations that are not reckoned out -/
section prims
variable (w0 : World)

def pIf (c : Value) (A B : Prop) : Prop := ∃ b, c = .bool b ∧ (b = true → A) ∧ (b = false → B)

/-- A value of a type with n cells (g: an aggregate). -/
def okV (g : Bool) (n : Nat) (v : Value) : Prop :=
  match g with
  | true => ∃ cs : List Value, v = .agg ⟨cs⟩ ∧ cs.length = n ∧ ∀ c, c ∈ cs → c.oneCell' = true
  | false => v.oneCell' = true

def pVal (g : Bool) (n : Nat) (v : Value) (A : Prop) : Prop := okV g n v ∧ A

def cellsAt (w0 : World) (σ : Vw) (a : Addr) (n : Nat) (g : Nat → Value) : Prop := ∀ j, j < n → get w0 σ (a.add j) = some (g j)

def pLoad (n : Nat) (p : Value) (σ : Vw) (K : (Nat → Value) → Prop) : Prop :=
  ∃ a g, p = .pointer (some a) ∧ cellsAt w0 σ a n g ∧ K g

/-- A store into a row. -/
def pStore (p : Value) (cs : List Value) (σ : Vw) (K : Vw → Prop) : Prop :=
  ∃ b off r, p = .pointer (some ⟨b, off, none⟩) ∧ σ b = some r ∧ off + cs.length ≤ r.cells.length ∧ K (σ.put b { r with cells := setAt r.cells off cs })

def pField (off : Nat) (p : Value) (K : Value → Prop) : Prop := ∃ a, p = .pointer (some a) ∧ K (.pointer (some (a.add off)))

def pIndexAddr (esz : Nat) (x i : Value) (K : Value → Prop) : Prop :=
  ∃ a len cap k n, x = .slice (some a) len cap ∧ i = .int k n ∧ 0 ≤ n ∧ n < len ∧ K (.pointer (some (a.add (n.toNat * esz))))

/-- An element's address in an array that lies in a row. -/
def pIndexArr (len esz : Nat) (x i : Value) (K : Value → Prop) : Prop :=
  ∃ a k n, x = .pointer (some a) ∧ i = .int k n ∧ 0 ≤ n ∧ n < (len : Int) ∧ K (.pointer (some (a.add (n.toNat * esz))))

def pIndexStr (x i : Value) (K : Value → Prop) : Prop :=
  ∃ s k n, x = .string s ∧ i = .int k n ∧ 0 ≤ n ∧ ∃ h : n.toNat < s.size, K (.int .u8 ((s[n.toNat]'h).toNat : Int))

def boundOf (d : Nat) : Option Value → Option Int
  | none => some d
  | some (.int _ n) => some n
  | some _ => none

def pSliceStr (x : Value) (lo hi : Option Value) (K : Value → Prop) : Prop :=
  ∃ s l h, x = .string s ∧ boundOf 0 lo = some l ∧ boundOf s.size hi = some h ∧ 0 ≤ l ∧ l ≤ h ∧ h ≤ s.size ∧ K (.string (s.extract l.toNat h.toNat))

def pSlice (esz : Nat) (x : Value) (lo hi : Option Value) (K : Value → Prop) : Prop :=
  ∃ A len cap l h, x = .slice A len cap ∧ boundOf 0 lo = some l ∧ boundOf len hi = some h ∧ 0 ≤ l ∧ l ≤ h ∧ h ≤ cap ∧
    K (.slice (if cap = l.toNat then A else A.map (·.add (l.toNat * esz))) (h.toNat - l.toNat) (cap - l.toNat))

/-- x[l:h:m]. -/
def pSlice3 (esz : Nat) (x : Value) (lo hi mx : Option Value) (K : Value → Prop) : Prop :=
  ∃ A len cap l h m, x = .slice A len cap ∧ boundOf 0 lo = some l ∧ hi.isSome = true ∧ boundOf len hi = some h ∧ mx.isSome = true ∧ boundOf cap mx = some m ∧ 0 ≤ l ∧ l ≤ h ∧ h ≤ m ∧ m ≤ cap ∧
    K (.slice (if m.toNat = l.toNat then A else A.map (·.add (l.toNat * esz))) (h.toNat - l.toNat) (m.toNat - l.toNat))

/-- clear(v). -/
def pClear (n : Nat) (z : List Value) (v : Value) (σ : Vw) (K : Vw → Prop) : Prop :=
  z.length = n ∧ (∀ c, c ∈ z → c.oneCell' = true) ∧ ∃ A len cap, v = .slice A len cap ∧ (((A = none ∨ len = 0) ∧ K σ) ∨
    ∃ b off r, A = some ⟨b, off, none⟩ ∧ 0 < len ∧ σ b = some r ∧ off + len * n ≤ r.cells.length ∧ K (σ.put b { r with cells := setAt r.cells off (List.replicate len z).flatten }))

/-- The call of a function value. -/
def pCallV (call : FuncId → List Value → Vw → (Value → Vw → Prop) → Prop) (v : Value) (vs : List Value) (σ : Vw) (K : Value → Vw → Prop) : Prop :=
  ∃ f fs cs, v = .func (.func f) ⟨fs⟩ ⟨cs⟩ ∧ call f (fs ++ vs ++ cs) σ K

def aint (op : BinOp) (k : IntKind) (a b : Int) : Option Value :=
  match op with
  | .add => some (.int k (k.wrap (a + b)))
  | .sub => some (.int k (k.wrap (a - b)))
  | .mul => some (.int k (k.wrap (a * b)))
  | .quo => if b = 0 then none else some (.int k (k.wrap (a.tdiv b)))
  | .rem => if b = 0 then none else some (.int k (a.tmod b))
  | .eql => some (.bool (a == b))
  | .neq => some (.bool (a != b))
  | .lss => some (.bool (decide (a < b)))
  | .leq => some (.bool (decide (a ≤ b)))
  | .gtr => some (.bool (decide (a > b)))
  | .geq => some (.bool (decide (a ≥ b)))
  | _ => none

def astr (op : BinOp) (x y : ByteArray) : Option Value :=
  match op with
  | .add => if ((x.size + y.size : Nat) : Int) > IntKind.i64.max then none else some (.string (x ++ y))
  | .eql => some (.bool (x.toList == y.toList))
  | .neq => some (.bool !(x.toList == y.toList))
  | .lss => some (.bool (Op.bytesLess x.toList y.toList))
  | .leq => some (.bool (Op.bytesLess x.toList y.toList || x.toList == y.toList))
  | .gtr => some (.bool !(Op.bytesLess x.toList y.toList || x.toList == y.toList))
  | .geq => some (.bool !Op.bytesLess x.toList y.toList)
  | _ => none

def abinT (P : Program) (T : Nat) (op : BinOp) (x y : Value) : Option Value :=
  match x, y with
  | .int k a, .int k' b => if k = k' then aint op k a b else none
  | .string a, .string b => astr op a b
  | .bool a, .bool b => match P.underlying T with
    | some .bool => match op with | .eql => some (.bool (a == b)) | .neq => some (.bool (!(a == b))) | _ => none
    | _ => none
  | .pointer a, .pointer none => match P.underlying T with
    | some (.pointer _) => match op with | .eql => some (.bool a.isNone) | .neq => some (.bool (!a.isNone)) | _ => none
    | _ => none
  | .slice a _ _, .slice none _ _ => match P.underlying T with
    | some (.slice _) => match op with | .eql => some (.bool a.isNone) | .neq => some (.bool (!a.isNone)) | _ => none
    | _ => none
  | _, _ => none

def pBin (P : Program) (T : Nat) (op : BinOp) (x y : Value) (K : Value → Prop) : Prop := ∃ v, abinT P T op x y = some v ∧ K v

def aun (op : UnOp) (x : Value) : Option Value :=
  match op, x with
  | .not, .bool b => some (.bool !b)
  | .neg, .int k n => some (.int k (k.wrap (0 - n)))
  | _, _ => none

def pUn (op : UnOp) (x : Value) (K : Value → Prop) : Prop := ∃ v, aun op x = some v ∧ K v

def pNil (p : Value) (K : Prop) : Prop := ∃ a, p = .pointer (some a) ∧ K

def pLen (x : Value) (K : Value → Prop) : Prop := ∃ A n c, x = .slice A n c ∧ K (.int .i64 n)
def pLenS (x : Value) (K : Value → Prop) : Prop := ∃ s, x = .string s ∧ K (.int .i64 s.size)

def pExtract (x : Value) (i : Nat) (K : Value → Prop) : Prop := ∃ vs : List Value, x = .tuple ⟨vs⟩ ∧ ∃ h : i < vs.length, K vs[i]

/-- A new row. -/
def pNew (ety : Nat) (cells : List Value) (σ : Vw) (K : Nat → Vw → Prop) : Prop :=
  ∀ b, w0.heap.size ≤ b → σ b = none → K b (σ.put b ⟨ety, cells, cells.length, (0, 0)⟩)

def pMake (ety esz bytes : Nat) (zero : List Value) (len cap : Value) (σ : Vw) (K : Value → Vw → Prop) : Prop :=
  ∃ k n, len = .int k n ∧ cap = .int k n ∧ 0 ≤ n ∧ n ≤ 9223372036854775807 ∧ bytes * n ≤ 2 ^ 47 ∧
    ∀ b, w0.heap.size ≤ b → σ b = none → K (.slice (some ⟨b, 0, none⟩) n.toNat n.toNat) (σ.put b ⟨ety, (List.replicate n.toNat zero).flatten, n.toNat * esz, (0, 0)⟩)

/-- A slice that lies at the head of a row of ours and reaches to its known end, or the nil slice. -/
def Own (σ : Vw) (ety esz : Nat) (v : Value) (n : Nat) (cells : List Value) : Prop :=
  cells.length = n * esz ∧ ((v = .slice none 0 0 ∧ n = 0) ∨ ∃ b c, v = .slice (some ⟨b, 0, none⟩) n c ∧ σ b = some ⟨ety, cells, c * esz, (0, 0)⟩ ∧ n ≤ c ∧ c ≤ 9223372036854775807)

/-- What an append leaves: the slice that it was given has grown where it was, or lies in a new row. -/
def Grew (w0 : World) (σ σ' : Vw) (ety esz : Nat) (v v' : Value) (n : Nat) (cells : List Value) : Prop :=
  (v' = v ∧ σ' = σ ∧ v = .slice none 0 0 ∧ n = 0 ∧ cells = []) ∨ ∃ b c, v' = .slice (some ⟨b, 0, none⟩) n c ∧ n ≤ c ∧ c ≤ 9223372036854775807 ∧ σ' = σ.put b ⟨ety, cells, c * esz, (0, 0)⟩ ∧ w0.heap.size ≤ b ∧ (σ b = none ∨ ∃ n0 c0, v = .slice (some ⟨b, 0, none⟩) n0 c0)

def pAppend (ety esz bytes : Nat) (v : Value) (m : Nat) (new : List Value) (σ : Vw) (K : Value → Vw → Prop) : Prop :=
  (∃ b off n c r, v = .slice (some ⟨b, off, none⟩) n c ∧ σ b = some r ∧ n + m ≤ c ∧ new.length = m * esz ∧ (∀ u, u ∈ new → u.oneCell' = true) ∧ off + n * esz + new.length ≤ r.cells.length ∧
    K (.slice (some ⟨b, off, none⟩) (n + m) c) (σ.put b { r with cells := setAt r.cells (off + n * esz) new })) ∨ ∃ n cells, Own σ ety esz v n cells ∧ new.length = m * esz ∧ n + m ≤ 9223372036854775807 ∧ (n + m) * bytes ≤ 2 ^ 47 ∧
    ∀ v' σ', Grew w0 σ σ' ety esz v v' (n + m) (cells ++ new) → K v' σ'

/-- What a slice's cells are, one by one. -/
def Cells (w0 : World) (σ : Vw) (A : Option Addr) (cs : List Value) : Prop := ∀ j (h : j < cs.length), ∃ a, A = some a ∧ get w0 σ (a.add j) = some cs[j]

def pAppendS (ety esz bytes : Nat) (v s : Value) (σ : Vw) (K : Value → Vw → Prop) : Prop :=
  ∃ A m c new, s = .slice A m c ∧ new.length = m * esz ∧ (∀ c, c ∈ new → c.oneCell' = true) ∧ Cells w0 σ A new ∧ pAppend w0 ety esz bytes v m new σ K

def pMin (x y : Value) (K : Value → Prop) : Prop := ∃ k a b, x = .int k a ∧ y = .int k b ∧ K (.int k (if b < a then b else a))
def pMax (x y : Value) (K : Value → Prop) : Prop := ∃ k a b, x = .int k a ∧ y = .int k b ∧ K (.int k (if b > a then b else a))

/-- string(b). -/
def pStr (x : Value) (σ : Vw) (K : Value → Prop) : Prop :=
  (∃ n c, x = .slice none n c ∧ K (.string .empty)) ∨
  ∃ b off n c, ∃ xs : List Int, x = .slice (some ⟨b, off, none⟩) n c ∧ xs.length = n ∧ (∀ j, j < n → get w0 σ ⟨b, off + j, none⟩ = some (.int .u8 (xs.getD j 0))) ∧ K (.string (strOfNums xs))

/-- []byte(s). -/
def pBytes (ety : Nat) (x : Value) (σ : Vw) (K : Value → Vw → Prop) : Prop :=
  ∃ s, x = .string s ∧ ∀ b c, w0.heap.size ≤ b → σ b = none → s.size ≤ c →
    K (.slice (some ⟨b, 0, none⟩) s.size c) (σ.put b ⟨ety, s.data.toList.map fun x => .int .u8 (x.toNat : Int), c, (c, c + 1)⟩)

def pConvInt (k : IntKind) (x : Value) (K : Value → Prop) : Prop := ∃ k' n, x = .int k' n ∧ K (.int k (k.wrap n))
end prims
end Go.Av
