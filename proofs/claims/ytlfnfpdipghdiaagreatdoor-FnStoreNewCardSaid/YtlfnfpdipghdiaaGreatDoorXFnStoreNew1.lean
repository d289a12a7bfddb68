/- The law FnStoreNew holds: it returns true, and the input reads as it did. No condition. This is part 1 of 4 of its proof. -/
import Derived.WalkKit
import Derived.OrdersHeld
import Derived.KernelRfl
import Derived.Laws.BytesArg
import Derived.Laws.StructEq
import Derived.Laws.AppendOwn
import Derived.Laws.MakeOwn
import Derived.Great.BuildSlice
import Derived.Laws.IdiomStrings

/- The abstract layer, part 1: what is known of slots, of the frame's own boxes and of the rows that a call has made; the operations as conditions on these. -/
set_option linter.unusedVariables false
namespace Go.Av
open Go Go.RowKit

/-- What is known of a slot: a value; a bool that is written out; an address in a box of the frame's own (box k, cell j); a slice over all of such a box; nothing; that it was never reckoned. -/
inductive TV where
  | val (v : Value)
  | lit (b : Bool)
  | lp (k j : Nat)
  | ls (k n : Nat)
  | unk
  | und

/-- A row that this call, or one that called it, has made: its element type, its first cells, how many cells it has. -/
structure Row where
  ety : Nat
  cells : List Value
  cap : Nat
  fz : Nat × Nat := (0, 0)

abbrev Vw := Nat → Option Row

def Vw.put (σ : Vw) (b : Nat) (r : Row) : Vw := fun i => if i = b then some r else σ i

/-- A cell, as the view has it: of old memory as it was at the beginning, of the rows what the view says. -/
def get (w0 : World) (σ : Vw) (a : Addr) : Option Value :=
  if a.block < w0.heap.size then w0.cell? a else if a.spot = none then (σ a.block).bind (·.cells[a.off]?) else none

structure St where
  tmps : List TV
  bx : Nat → Option (List Value)

/-- What an operation does to the frame's own boxes. -/
abbrev Eff := Option (Nat × List Value)

def St.eff (st : St) : Eff → St
  | none => st
  | some (k, cs) => { st with bx := fun i => bif Nat.beq k i then some cs else st.bx i }

def ofConst : Value → TV
  | .bool b => .lit b
  | v => .val v

def ev (st : St) : Operand → TV
  | .tmp t => st.tmps.getD t .unk
  | .const v => ofConst v
  | .func f => .val (.func (.func f) #[] #[])
  | .global g => .val (.pointer (some ⟨g, 0, none⟩))

def toV : TV → Option Value
  | .val v => some v
  | .lit b => some (.bool b)
  | _ => none

def putT (st : St) (dst : Option Tmp) (x : TV) : St :=
  match dst with
  | some d => { st with tmps := st.tmps.set d x }
  | none => st

/-- A list written out. -/
def expl (f : Nat → Value) : Nat → Nat → List Value
  | _, 0 => []
  | i, n + 1 => f i :: expl f (i + 1) n

def cellsL (v : Value) : List Value := v.cells.toList

def mkVal (agg : Bool) (cs : List Value) : Value :=
  match agg with
  | true => .agg ⟨cs⟩
  | false => cs.headD undef

def setAt : List Value → Nat → List Value → List Value
  | cs, _, [] => cs
  | cs, j, v :: r => setAt (cs.set j v) (j + 1) r

/-! ### The operations that are not reckoned out -/
section prims
variable (w0 : World)

def pIf (c : Value) (A B : Prop) : Prop := ∃ b, c = .bool b ∧ (b = true → A) ∧ (b = false → B)

/-- A value of a type with n cells (g: an aggregate). -/
def okV (g : Bool) (n : Nat) (v : Value) : Prop :=
  match g with
  | true => ∃ cs : List Value, v = .agg ⟨cs⟩ ∧ cs.length = n ∧ ∀ c, c ∈ cs → c.oneCell' = true
  | false => v.oneCell' = true

def pVal (g : Bool) (n : Nat) (v : Value) (A : Prop) : Prop := okV g n v ∧ A

def cellsAt (w0 : World) (σ : Vw) (a : Addr) (n : Nat) (g : Nat → Value) : Prop := ∀ j, j < n → get w0 σ (a.add j) = some (g j)

def pLoad (n : Nat) (p : Value) (σ : Vw) (K : (Nat → Value) → Prop) : Prop :=
  ∃ a g, p = .pointer (some a) ∧ cellsAt w0 σ a n g ∧ K g

/-- A store into a row. -/
def pStore (p : Value) (cs : List Value) (σ : Vw) (K : Vw → Prop) : Prop :=
  ∃ b off r, p = .pointer (some ⟨b, off, none⟩) ∧ σ b = some r ∧ off + cs.length ≤ r.cells.length ∧ K (σ.put b { r with cells := setAt r.cells off cs })

def pField (off : Nat) (p : Value) (K : Value → Prop) : Prop := ∃ a, p = .pointer (some a) ∧ K (.pointer (some (a.add off)))

def pIndexAddr (esz : Nat) (x i : Value) (K : Value → Prop) : Prop :=
  ∃ a len cap k n, x = .slice (some a) len cap ∧ i = .int k n ∧ 0 ≤ n ∧ n < len ∧ K (.pointer (some (a.add (n.toNat * esz))))

/-- An element's address in an array that lies in a row. -/
def pIndexArr (len esz : Nat) (x i : Value) (K : Value → Prop) : Prop :=
  ∃ a k n, x = .pointer (some a) ∧ i = .int k n ∧ 0 ≤ n ∧ n < (len : Int) ∧ K (.pointer (some (a.add (n.toNat * esz))))

def pIndexStr (x i : Value) (K : Value → Prop) : Prop :=
  ∃ s k n, x = .string s ∧ i = .int k n ∧ 0 ≤ n ∧ ∃ h : n.toNat < s.size, K (.int .u8 ((s[n.toNat]'h).toNat : Int))

def boundOf (d : Nat) : Option Value → Option Int
  | none => some d
  | some (.int _ n) => some n
  | some _ => none

def pSliceStr (x : Value) (lo hi : Option Value) (K : Value → Prop) : Prop :=
  ∃ s l h, x = .string s ∧ boundOf 0 lo = some l ∧ boundOf s.size hi = some h ∧ 0 ≤ l ∧ l ≤ h ∧ h ≤ s.size ∧ K (.string (s.extract l.toNat h.toNat))

def pSlice (esz : Nat) (x : Value) (lo hi : Option Value) (K : Value → Prop) : Prop :=
  ∃ A len cap l h, x = .slice A len cap ∧ boundOf 0 lo = some l ∧ boundOf len hi = some h ∧ 0 ≤ l ∧ l ≤ h ∧ h ≤ cap ∧
    K (.slice (if cap = l.toNat then A else A.map (·.add (l.toNat * esz))) (h.toNat - l.toNat) (cap - l.toNat))

/-- x[l:h:m]. -/
def pSlice3 (esz : Nat) (x : Value) (lo hi mx : Option Value) (K : Value → Prop) : Prop :=
  ∃ A len cap l h m, x = .slice A len cap ∧ boundOf 0 lo = some l ∧ hi.isSome = true ∧ boundOf len hi = some h ∧ mx.isSome = true ∧ boundOf cap mx = some m ∧ 0 ≤ l ∧ l ≤ h ∧ h ≤ m ∧ m ≤ cap ∧
    K (.slice (if m.toNat = l.toNat then A else A.map (·.add (l.toNat * esz))) (h.toNat - l.toNat) (m.toNat - l.toNat))

/-- clear(v). -/
def pClear (n : Nat) (z : List Value) (v : Value) (σ : Vw) (K : Vw → Prop) : Prop :=
  z.length = n ∧ (∀ c, c ∈ z → c.oneCell' = true) ∧ ∃ A len cap, v = .slice A len cap ∧ (((A = none ∨ len = 0) ∧ K σ) ∨
    ∃ b off r, A = some ⟨b, off, none⟩ ∧ 0 < len ∧ σ b = some r ∧ off + len * n ≤ r.cells.length ∧ K (σ.put b { r with cells := setAt r.cells off (List.replicate len z).flatten }))

/-- The call of a function value. -/
def pCallV (call : FuncId → List Value → Vw → (Value → Vw → Prop) → Prop) (v : Value) (vs : List Value) (σ : Vw) (K : Value → Vw → Prop) : Prop :=
  ∃ f fs cs, v = .func (.func f) ⟨fs⟩ ⟨cs⟩ ∧ call f (fs ++ vs ++ cs) σ K

def aint (op : BinOp) (k : IntKind) (a b : Int) : Option Value :=
  match op with
  | .add => some (.int k (k.wrap (a + b)))
  | .sub => some (.int k (k.wrap (a - b)))
  | .mul => some (.int k (k.wrap (a * b)))
  | .quo => if b = 0 then none else some (.int k (k.wrap (a.tdiv b)))
  | .rem => if b = 0 then none else some (.int k (a.tmod b))
  | .eql => some (.bool (a == b))
  | .neq => some (.bool (a != b))
  | .lss => some (.bool (decide (a < b)))
  | .leq => some (.bool (decide (a ≤ b)))
  | .gtr => some (.bool (decide (a > b)))
  | .geq => some (.bool (decide (a ≥ b)))
  | .xor => some (.int k (k.wrap ((BitVec.ofInt k.bits a ^^^ BitVec.ofInt k.bits b).toNat : Int)))
  | .and => some (.int k (k.wrap ((BitVec.ofInt k.bits a &&& BitVec.ofInt k.bits b).toNat : Int)))
  | .or => some (.int k (k.wrap ((BitVec.ofInt k.bits a ||| BitVec.ofInt k.bits b).toNat : Int)))
  | _ => none

def astr (op : BinOp) (x y : ByteArray) : Option Value :=
  match op with
  | .add => if ((x.size + y.size : Nat) : Int) > IntKind.i64.max then none else some (.string (x ++ y))
  | .eql => some (.bool (x.toList == y.toList))
  | .neq => some (.bool !(x.toList == y.toList))
  | .lss => some (.bool (Op.bytesLess x.toList y.toList))
  | .leq => some (.bool (Op.bytesLess x.toList y.toList || x.toList == y.toList))
  | .gtr => some (.bool !(Op.bytesLess x.toList y.toList || x.toList == y.toList))
  | .geq => some (.bool !Op.bytesLess x.toList y.toList)
  | _ => none

open Classical in
/-- Two structs, compared: where their comparison has one answer in every world. -/
noncomputable def aggB (P : Program) (T : Nat) (op : BinOp) (xs ys : Array Value) : Option Value :=
  if h : P.eqGuardType P.depth T = false ∧ ∃ r : Bool, ∀ w : World, (Op.equalIn 10000 T (.agg xs) (.agg ys)).run P w = .ok r w then
    match op with
    | .eql => some (.bool (Classical.choose h.2))
    | .neq => some (.bool (!(Classical.choose h.2)))
    | _ => none
  else none

noncomputable def abinT (P : Program) (T : Nat) (op : BinOp) (x y : Value) : Option Value :=
  match x, y with
  | .int k a, .int k' b => if k = k' then aint op k a b else none
  | .string a, .string b => astr op a b
  | .bool a, .bool b => match P.underlying T with
    | some .bool => match op with | .eql => some (.bool (a == b)) | .neq => some (.bool (!(a == b))) | _ => none
    | _ => none
  | .pointer a, .pointer none => match P.underlying T with
    | some (.pointer _) => match op with | .eql => some (.bool a.isNone) | .neq => some (.bool (!a.isNone)) | _ => none
    | _ => none
  | .slice a _ _, .slice none _ _ => match P.underlying T with
    | some (.slice _) => match op with | .eql => some (.bool a.isNone) | .neq => some (.bool (!a.isNone)) | _ => none
    | _ => none
  | .agg xs, .agg ys => aggB P T op xs ys
  | _, _ => none

def pBin (P : Program) (T : Nat) (op : BinOp) (x y : Value) (K : Value → Prop) : Prop := ∃ v, abinT P T op x y = some v ∧ K v

def aun (op : UnOp) (x : Value) : Option Value :=
  match op, x with
  | .not, .bool b => some (.bool !b)
  | .neg, .int k n => some (.int k (k.wrap (0 - n)))
  | _, _ => none

def pUn (op : UnOp) (x : Value) (K : Value → Prop) : Prop := ∃ v, aun op x = some v ∧ K v

def pNil (p : Value) (K : Prop) : Prop := ∃ a, p = .pointer (some a) ∧ K

def pLen (x : Value) (K : Value → Prop) : Prop := ∃ A n c, x = .slice A n c ∧ K (.int .i64 n)
def pLenS (x : Value) (K : Value → Prop) : Prop := ∃ s, x = .string s ∧ K (.int .i64 s.size)

def pExtract (x : Value) (i : Nat) (K : Value → Prop) : Prop := ∃ vs : List Value, x = .tuple ⟨vs⟩ ∧ ∃ h : i < vs.length, K vs[i]

/-- A new row. -/
def pNew (ety : Nat) (cells : List Value) (σ : Vw) (K : Nat → Vw → Prop) : Prop :=
  ∀ b, w0.heap.size ≤ b → σ b = none → K b (σ.put b ⟨ety, cells, cells.length, (0, 0)⟩)

def pMake (ety esz bytes : Nat) (zero : List Value) (len cap : Value) (σ : Vw) (K : Value → Vw → Prop) : Prop :=
  ∃ k n, len = .int k n ∧ cap = .int k n ∧ 0 ≤ n ∧ n ≤ 9223372036854775807 ∧ bytes * n ≤ 2 ^ 47 ∧
    ∀ b, w0.heap.size ≤ b → σ b = none → K (.slice (some ⟨b, 0, none⟩) n.toNat n.toNat) (σ.put b ⟨ety, (List.replicate n.toNat zero).flatten, n.toNat * esz, (0, 0)⟩)

/-- A slice that lies at the head of a row of ours and reaches to its known end, or the nil slice. -/
def Own (σ : Vw) (ety esz : Nat) (v : Value) (n : Nat) (cells : List Value) : Prop :=
  cells.length = n * esz ∧ ((v = .slice none 0 0 ∧ n = 0) ∨ ∃ b c, v = .slice (some ⟨b, 0, none⟩) n c ∧ σ b = some ⟨ety, cells, c * esz, (0, 0)⟩ ∧ n ≤ c ∧ c ≤ 9223372036854775807)

/-- What an append leaves: the slice that it was given has grown where it was, or lies in a new row. -/
def Grew (w0 : World) (σ σ' : Vw) (ety esz : Nat) (v v' : Value) (n : Nat) (cells : List Value) : Prop :=
  (v' = v ∧ σ' = σ ∧ v = .slice none 0 0 ∧ n = 0 ∧ cells = []) ∨ ∃ b c, v' = .slice (some ⟨b, 0, none⟩) n c ∧ n ≤ c ∧ c ≤ 9223372036854775807 ∧ σ' = σ.put b ⟨ety, cells, c * esz, (0, 0)⟩ ∧ w0.heap.size ≤ b ∧ (σ b = none ∨ ∃ n0 c0, v = .slice (some ⟨b, 0, none⟩) n0 c0)

def pAppend (ety esz bytes : Nat) (v : Value) (m : Nat) (new : List Value) (σ : Vw) (K : Value → Vw → Prop) : Prop :=
  (∃ b off n c r, v = .slice (some ⟨b, off, none⟩) n c ∧ σ b = some r ∧ n + m ≤ c ∧ new.length = m * esz ∧ (∀ u, u ∈ new → u.oneCell' = true) ∧ off + n * esz + new.length ≤ r.cells.length ∧
    K (.slice (some ⟨b, off, none⟩) (n + m) c) (σ.put b { r with cells := setAt r.cells (off + n * esz) new })) ∨ (∃ n cells, Own σ ety esz v n cells ∧ new.length = m * esz ∧ n + m ≤ 9223372036854775807 ∧ (n + m) * bytes ≤ 2 ^ 47 ∧
    ∀ v' σ', Grew w0 σ σ' ety esz v v' (n + m) (cells ++ new) → K v' σ') ∨
  ∃ b c r, v = .slice (some ⟨b, 0, none⟩) c c ∧ σ b = some r ∧ r.cells.length = c * esz ∧ 0 < m ∧ new.length = m * esz ∧ c + m ≤ 9223372036854775807 ∧ (c + m) * bytes ≤ 2 ^ 47 ∧
    ∀ b' c', w0.heap.size ≤ b' → σ b' = none → c + m ≤ c' → c' ≤ 9223372036854775807 → K (.slice (some ⟨b', 0, none⟩) (c + m) c') (σ.put b' ⟨ety, r.cells ++ new, c' * esz, (0, 0)⟩)

/-- What a slice's cells are, one by one. -/
def Cells (w0 : World) (σ : Vw) (A : Option Addr) (cs : List Value) : Prop := ∀ j (h : j < cs.length), ∃ a, A = some a ∧ get w0 σ (a.add j) = some cs[j]

def pAppendS (ety esz bytes : Nat) (v s : Value) (σ : Vw) (K : Value → Vw → Prop) : Prop :=
  ∃ A m c new, s = .slice A m c ∧ new.length = m * esz ∧ (∀ c, c ∈ new → c.oneCell' = true) ∧ Cells w0 σ A new ∧ pAppend w0 ety esz bytes v m new σ K

def pMin (x y : Value) (K : Value → Prop) : Prop := ∃ k a b, x = .int k a ∧ y = .int k b ∧ K (.int k (if b < a then b else a))
def pMax (x y : Value) (K : Value → Prop) : Prop := ∃ k a b, x = .int k a ∧ y = .int k b ∧ K (.int k (if b > a then b else a))

/-- string(b). -/
def pStr (x : Value) (σ : Vw) (K : Value → Prop) : Prop :=
  (∃ n c, x = .slice none n c ∧ K (.string .empty)) ∨
  ∃ b off n c, ∃ xs : List Int, x = .slice (some ⟨b, off, none⟩) n c ∧ xs.length = n ∧ (∀ j, j < n → get w0 σ ⟨b, off + j, none⟩ = some (.int .u8 (xs.getD j 0))) ∧ K (.string (strOfNums xs))

/-- []byte(s). -/
def pBytes (ety : Nat) (x : Value) (σ : Vw) (K : Value → Vw → Prop) : Prop :=
  ∃ s, x = .string s ∧ ∀ b c, w0.heap.size ≤ b → σ b = none → s.size ≤ c →
    K (.slice (some ⟨b, 0, none⟩) s.size c) (σ.put b ⟨ety, (s.data.toList.map fun x => Value.int .u8 (x.toNat : Int)) ++ List.replicate (c - s.size) (.int .u8 0), c, (c, c + 1)⟩)

def pConvInt (k : IntKind) (x : Value) (K : Value → Prop) : Prop := ∃ k' n, x = .int k' n ∧ K (.int k (k.wrap n))
end prims
end Go.Av

/- The abstract layer, part 2: what is owed for an operation ('denOp'), reckoned out by the kernel. -/
set_option linter.unusedVariables false
namespace Go.Av
open Go Go.RowKit

section
variable (P : Program) (w0 : World)

/-- A type's make: an aggregate or not, and how many cells. -/
def tyOf (T : Nat) : Option (Bool × Nat) :=
  match P.info? T, P.underlying T with
  | some i, some d => match d with
    | .struct _ => some (true, i.size)
    | .array _ _ => some (true, i.size)
    | _ => bif Nat.beq i.size 1 then some (false, 1) else none
  | _, _ => none
def zeroOf (T : Nat) : Option (List Value) :=
  match P.info? T with
  | some i => match i.zero with
    | some z => bif Nat.beq (cellsL z).length i.size then some (cellsL z) else none
    | none => none
  | none => none
def offOf (T f : Nat) : Option Nat := match P.underlying T with
  | some (.struct fs) => match fs[f]? with
    | some x => (match tyOf P x.type with | some (_, n) => bif Nat.beq n 0 then none else some x.offset | none => none)
    | none => none
  | _ => none
def allTy : List Field → Bool
  | [] => true
  | f :: r => match tyOf P f.type with | some _ => allTy r | none => false
def elemOf (T : Nat) : Option Nat := match P.underlying T with | some (.slice e) => some e | _ => none

def toVs (st : St) : List Operand → Option (List Value)
  | [] => some []
  | x :: r => match toV (ev st x) with
    | some v => match toVs st r with
      | some vs => some (v :: vs)
      | none => none
    | none => none

/-- A value's n cells, written out. -/
def cellOf (v : Value) (i : Nat) : Value := (cellsL v).getD i undef
def spread (n : Nat) (v : Value) : List Value := expl (cellOf v) 0 n

/-- The cells of a value, written out. -/
def cellsT (g : Bool) (n : Nat) (v : Value) : List Value :=
  match g with
  | true => spread n v
  | false => [v]

/-- The parts of a literal, each at its place. -/
def fillParts (st : St) (place : Nat → Option (Nat × (Bool × Nat))) : List (Nat × Operand) → List Value → (List Value → Prop) → Prop
  | [], cs, A => A cs
  | (i, x) :: r, cs, A => match place i, toV (ev st x) with
    | some (off, (g, n)), some v => match Nat.ble (off + n) cs.length with
      | true => pVal g n v (fillParts st place r (setAt cs off (cellsT g n v)) A)
      | false => False
    | _, _ => False

def replL (cs : List Value) : Nat → List Value
  | 0 => []
  | n + 1 => cs ++ replL cs n

variable (call : FuncId → List Value → Vw → (Value → Vw → Prop) → Prop)

def oV (st : St) : Option Operand → Option (Option Value)
  | none => some none
  | some x => match toV (ev st x) with
    | some v => some (some v)
    | none => none

def allOne (cs : List Value) : Prop := ∀ c, c ∈ cs → c.oneCell' = true

def denB (b : Builtin) (ats : List Nat) (as : List Operand) (st : St) (σ : Vw) (K : TV → Eff → Vw → Prop) : Prop :=
  match b, as, ats with
  | .len, [x], T :: _ => match ev st x, P.underlying T with
    | .val v, some .string => pLenS v fun r => K (.val r) none σ
    | .val v, some (.slice _) => pLen v fun r => K (.val r) none σ
    | .ls _ n, some (.slice _) => K (.val (.int .i64 n)) none σ
    | _, _ => False
  | .append, [x, y], T :: T2 :: _ => match elemOf P T, elemOf P T2, toV (ev st x), ev st y with
    | some e, some e2, some v, y => match tyOf P e, zeroOf P e, Nat.beq T T2 with
      | some (_, n + 1), some _, true => match y with
        | .ls k m => match st.bx k with
          | some cs => match Nat.beq cs.length (m * (n + 1)) with
            | true => allOne cs ∧ pAppend w0 e (n + 1) (P.bytesOf e) v m cs σ fun r σ => K (.val r) none σ
            | false => False
          | none => False
        | .val u => pAppendS w0 e (n + 1) (P.bytesOf e) v u σ fun r σ => K (.val r) none σ
        | _ => False
      | _, _, _ => False
    | _, _, _, _ => False
  | .min, [x, y], _ => match toV (ev st x), toV (ev st y) with
    | some a, some b => pMin a b fun r => K (.val r) none σ
    | _, _ => False
  | .max, [x, y], _ => match toV (ev st x), toV (ev st y) with
    | some a, some b => pMax a b fun r => K (.val r) none σ
    | _, _ => False
  | .clear, [x], T :: _ => match elemOf P T, toV (ev st x) with
    | some e, some v => match zeroOf P e, tyOf P e with
      | some z, some (_, n + 1) => pClear (n + 1) z v σ fun σ => K (.val (.tuple ⟨[]⟩)) none σ
      | _, _ => False
    | _, _ => False
  | _, _, _ => False

/-- A new box of the frame's own, or a new row. -/
def mkBox (esc : Nat → Bool) (dst : Option Tmp) (ety : Nat) (st : St) (cs : List Value) (σ : Vw) (loc : Nat → TV) (far : Nat → Value) (K : TV → Eff → Vw → Prop) : Prop :=
  match dst with
  | some k => match esc k with
    | true => pNew w0 ety cs σ fun b σ => K (.val (far b)) none σ
    | false => match st.bx k with
      | none => K (loc k) (some (k, cs)) σ
      | some _ => False
  | none => False

def gkFind : List (Nat × Bool) → Nat → Option Bool
  | [], _ => none
  | (t, b) :: r, i => bif Nat.beq t i then some b else gkFind r i

/-- Is a bool written out, or has it been parted on? -/
def knownB (gk : List (Nat × Bool)) (st : St) (c : Operand) : Option Bool :=
  match ev st c with
  | .lit b => some b
  | .val _ => match c with
    | .tmp t => gkFind gk t
    | _ => none
  | _ => none

def denOp (esc : Nat → Bool) (gk : List (Nat × Bool)) (dst : Option Tmp) (op : Op) (st : St) (σ : Vw) (K : TV → Eff → Vw → Prop) : Prop :=
  match op with
  | .move x => K (ev st x) none σ
  | .assign x => K (ev st x) none σ
  | .pick c a b => match knownB gk st c with
    | some true => K (ev st a) none σ
    | some false => K (ev st b) none σ
    | none => match ev st c with
      | .val v => pIf v (K (ev st a) none σ) (K (ev st b) none σ)
      | _ => False
  | .alloc T => match zeroOf P T with
    | some cs => mkBox w0 esc dst T st cs σ (fun k => .lp k 0) (fun b => .pointer (some ⟨b, 0, none⟩)) K
    | none => False
  | .box T x => match toV (ev st x), tyOf P T with
    | some v, some (g, n) => pVal g n v (mkBox w0 esc dst T st (cellsT g n v) σ (fun k => .lp k 0) (fun b => .pointer (some ⟨b, 0, none⟩)) K)
    | _, _ => False
  | .build T parts => match P.underlying T, zeroOf P T with
    | some (.struct fs), some cs => match allTy P fs.toList with
     | true => fillParts st (fun i => match fs[i]? with | some f => (match tyOf P f.type with | some ty => some (f.offset, ty) | none => none) | none => none) parts.toList cs fun cs => K (.val (.agg ⟨cs⟩)) none σ
     | false => False
    | some (.array _ e), some cs => match tyOf P e with
      | some (g, n) => fillParts st (fun i => some (i * n, (g, n))) parts.toList cs fun cs => K (.val (.agg ⟨cs⟩)) none σ
      | none => False
    | _, _ => False
  | .buildSlice T len parts => match elemOf P T with
    | some e => match zeroOf P e, tyOf P e with
      | some z, some (g, n + 1) => match Nat.ble (len * (n + 1)) 16000000 with
        | true => fillParts st (fun i => some (i * (n + 1), (g, n + 1))) parts.toList (replL z len) fun cs =>
          mkBox w0 esc dst e st cs σ (fun k => .ls k len) (fun b => .slice (some ⟨b, 0, none⟩) len len) K
        | false => False
      | _, _ => False
    | none => False
  | .load T x => match tyOf P T with
    | some (g, n) => match ev st x with
      | .lp k j => match st.bx k with
        | some cs => match Nat.ble (j + n) cs.length with
          | true => K (.val (mkVal g (expl (fun i => cs.getD i undef) j n))) none σ
          | false => False
        | none => False
      | .val v => pLoad w0 n v σ fun c => K (.val (mkVal g (expl c 0 n))) none σ
      | _ => False
    | none => False
  | .store T x y => match tyOf P T, toV (ev st y) with
    | some (g, n), some u => pVal g n u (match ev st x with
      | .lp k j => match st.bx k with
        | some old => match Nat.ble (j + n) old.length with
          | true => K (.val undef) (some (k, setAt old j (cellsT g n u))) σ
          | false => False
        | none => False
      | .val v => pStore v (cellsT g n u) σ fun σ => K (.val undef) none σ
      | _ => False)
    | _, _ => False
  | .nilCheck x => match ev st x with
    | .lp k j => K (.lp k j) none σ
    | .val v => pNil v (K (.val v) none σ)
    | _ => False
  | .binOp op T x y _ => match toV (ev st x), toV (ev st y) with
    | some a, some b => pBin P T op a b fun r => K (.val r) none σ
    | _, _ => False
  | .unOp op _ x => match toV (ev st x) with
    | some a => pUn op a fun r => K (.val r) none σ
    | none => False
  | .convert s d x => match P.underlying s, P.underlying d, toV (ev st x) with
    | some (.int _), some (.int k), some v => pConvInt k v fun r => K (.val r) none σ
    | some (.slice e), some .string, some v => match P.underlying e with
      | some (.int .u8) => pStr w0 v σ fun r => K (.val r) none σ
      | _ => False
    | some .string, some (.slice e), some v => match P.underlying e with
      | some (.int .u8) => pBytes w0 e v σ fun r σ => K (.val r) none σ
      | _ => False
    | _, _, _ => False
  | .makeSlice T l c => match elemOf P T, toV (ev st l), toV (ev st c) with
    | some e, some l, some c => match zeroOf P e, tyOf P e with
      | some z, some (_, n + 1) => pMake w0 e (n + 1) (P.bytesOf e) z l c σ fun r σ => K (.val r) none σ
      | _, _ => False
    | _, _, _ => False
  | .slice T x lo hi none => match P.underlying T, toV (ev st x), oV st lo, oV st hi with
    | some .string, some v, some l, some h => pSliceStr v l h fun r => K (.val r) none σ
    | some (.slice e), some v, some l, some h => match tyOf P e with
      | some (_, n) => pSlice n v l h fun r => K (.val r) none σ
      | none => False
    | _, _, _, _ => False
  | .slice T x lo hi (some mx) => match P.underlying T, toV (ev st x), oV st lo, oV st hi, oV st (some mx) with
    | some (.slice e), some v, some l, some h, some m => match tyOf P e with
      | some (_, n) => pSlice3 n v l h m fun r => K (.val r) none σ
      | none => False
    | _, _, _, _, _ => False
  | .field T x f => match P.underlying T, tyOf P T, toV (ev st x) with
    | some (.struct fs), some (true, m), some v => match fs[f]? with
      | some fd => match tyOf P fd.type with
        | some (g, n) => match Nat.ble (fd.offset + n) m with
          | true => pVal true m v (K (.val (mkVal g (expl (cellOf v) fd.offset n))) none σ)
          | false => False
        | none => False
      | none => False
    | _, _, _ => False
  | .makeFunc (.func f) first captured => match toVs st first.toList, toVs st captured.toList with
    | some fs, some cs => K (.val (.func (.func f) ⟨fs⟩ ⟨cs⟩)) none σ
    | _, _ => False
  | .fieldAddr T x f => match offOf P T f, ev st x with
    | some o, .lp k j => K (.lp k (j + o)) none σ
    | some o, .val v => pField o v fun r => K (.val r) none σ
    | _, _ => False
  | .indexAddr T x i => match toV (ev st x), toV (ev st i), P.underlying T with
    | some v, some i, some (.slice e) => match tyOf P e with
      | some (_, n) => pIndexAddr n v i fun r => K (.val r) none σ
      | none => False
    | some v, some i, some (.array len e) => match Nat.ble 2 len, tyOf P e with
      | true, some (_, n) => pIndexArr len n v i fun r => K (.val r) none σ
      | _, _ => False
    | _, _, _ => False
  | .index T x i => match toV (ev st x), toV (ev st i), P.underlying T with
    | some v, some i, some .string => pIndexStr v i fun r => K (.val r) none σ
    | _, _, _ => False
  | .extract x i => match toV (ev st x) with
    | some v => pExtract v i fun r => K (.val r) none σ
    | none => False
  | .call c => match c.callee with
    | .builtin b => denB P w0 b c.argTypes.toList c.args.toList st σ K
    | .value (.func f) => match toVs st c.args.toList with
      | some vs => call f vs σ fun r σ => K (.val r) none σ
      | none => False
    | .value (.tmp t) => match toV (ev st (.tmp t)), toVs st c.args.toList with
      | some v, some vs => pCallV call v vs σ fun r σ => K (.val r) none σ
      | _, _ => False
    | _ => False
  | _ => False

/-- What a guard's slot is known to be. -/
def guardSlot (ops : List Oper) (g : Nat) : Option Tmp := (ops[g]?).bind (·.dst)

def agree (b want : Bool) : Bool := match b, want with | true, true => true | false, false => true | _, _ => false

/-- A list, cell by cell. -/
def listK {α : Type} : List α → (List α → Prop) → Prop
  | [], K => K []
  | a :: r, K => listK r fun r => K (a :: r)
theorem listK_eq {α : Type} : ∀ (l : List α) (K : List α → Prop), listK l K = K l
  | [], _ => rfl
  | a :: r, K => listK_eq r _

def setK : List TV → Nat → TV → (List TV → Prop) → Prop
  | [], _, _, K => K []
  | _ :: r, 0, x, K => K (x :: r)
  | a :: r, n + 1, x, K => setK r n x fun r => K (a :: r)
theorem setK_eq : ∀ (l : List TV) (n : Nat) (x : TV) (K : List TV → Prop), setK l n x K = K (l.set n x)
  | [], _, _, _ => rfl
  | _ :: _, 0, _, _ => rfl
  | _ :: r, n + 1, x, K => setK_eq r n x _

def tvK (x : TV) (K : TV → Prop) : Prop :=
  match x with
  | .val v => K (.val v)
  | .lit b => K (.lit b)
  | .lp k j => K (.lp k j)
  | .ls k n => K (.ls k n)
  | .unk => K .unk
  | .und => K .und
theorem tvK_eq (x : TV) (K : TV → Prop) : tvK x K = K x := by cases x <;> rfl

/-- A slot written and a box written, reckoned out. -/
def putK (st : St) (e : Eff) (dst : Option Tmp) (x : TV) (K : St → Prop) : Prop :=
  match e with
  | none => match dst with
    | none => K st
    | some d => tvK x fun x => setK st.tmps d x fun l => K ⟨l, st.bx⟩
  | some (k, cs) => listK cs fun cs => match dst with
    | none => K (st.eff (some (k, cs)))
    | some d => tvK x fun x => setK st.tmps d x fun l => K ⟨l, (st.eff (some (k, cs))).bx⟩
theorem putK_eq (st : St) (e : Eff) (dst : Option Tmp) (x : TV) (K : St → Prop) : putK st e dst x K = K (putT (st.eff e) dst x) := by
  cases e with
  | none => cases dst <;> simp only [putK, tvK_eq, setK_eq, putT, St.eff]
  | some kc =>
    obtain ⟨k, cs⟩ := kc
    cases dst <;> simp only [putK, tvK_eq, setK_eq, listK_eq, putT, St.eff]

def runG (esc : Nat → Bool) (gk : List (Nat × Bool)) (o : Oper) (go : Bool) (st : St) (σ : Vw) (K : St → Vw → Prop) : Prop :=
  match go with
  | true => denOp P w0 call esc gk o.dst o.op st σ fun x e σ => putK st e o.dst x fun st => K st σ
  | false => putK st none o.dst .und fun st => K st σ

/-- May the slot be written? Not if it has been parted on. -/
def freeSlot (gk : List (Nat × Bool)) (dst : Option Tmp) : Bool :=
  match dst with
  | none => true
  | some d => match gkFind gk d with
    | none => true
    | some _ => false

/-- One operation of a region, with its guard: a guard that is not written out is parted on. -/
def denG (ops : List Oper) (esc : Nat → Bool) (gk : List (Nat × Bool)) (o : Oper) (st : St) (σ : Vw) (K : List (Nat × Bool) → St → Vw → Prop) : Prop :=
  match freeSlot gk o.dst with
  | false => False
  | true => match o.guard with
    | none => runG P w0 call esc gk o true st σ (K gk)
    | some (g, want) => match guardSlot ops g with
      | none => False
      | some t => match freeSlot [(t, true)] o.dst with
        | false => False
        | true => match knownB gk st (.tmp t) with
          | some b => runG P w0 call esc gk o (agree b want) st σ (K gk)
          | none => match st.tmps.getD t .unk with
            | .val v => pIf v
                (runG P w0 call esc ((t, true) :: gk) o (agree true want) st σ (K ((t, true) :: gk)))
                (runG P w0 call esc ((t, false) :: gk) o (agree false want) st σ (K ((t, false) :: gk)))
            | .und => runG P w0 call esc gk o false st σ (K gk)
            | _ => False

def denOps (ops : List Oper) (esc : Nat → Bool) : List Oper → List (Nat × Bool) → St → Vw → (St → Vw → Prop) → Prop
  | [], _, st, σ, K => K st σ
  | o :: r, gk, st, σ, K => denG P w0 call ops esc gk o st σ fun gk st σ => denOps ops esc r gk st σ K
end
end Go.Av

/- The abstract layer, part 3: the view and the world. What a step leaves ('Aft'), the frame ('Sim'), what reads and makes. -/
set_option linter.unusedVariables false
set_option linter.unusedSimpArgs false
namespace Go.Av
open Go Go.RowKit

def RowOk (w0 w : World) (b : Nat) (r : Row) : Prop :=
  w0.heap.size ≤ b ∧ ∃ cur : Array Value, w.heap[b]? = some (.cells cur r.ety r.fz) ∧ r.cells <+: cur.toList ∧ cur.size = r.cap ∧ (cur.size ≤ r.fz.1 ∨ r.fz.2 ≤ r.fz.1)

/-- The world fits the view. -/
structure Sat (w0 : World) (σ : Vw) (w : World) : Prop where
  bel : Below w0.heap.size w0 w
  row : ∀ b r, σ b = some r → RowOk w0 w b r

/-- Behind a step: the new view fits; what the view did not speak of is as it was. -/
structure Aft (w0 : World) (σ : Vw) (w : World) (σ' : Vw) (w' : World) : Prop where
  sat : Sat w0 σ' w'
  size : w.heap.size ≤ w'.heap.size
  fr : ∀ b, b < w.heap.size → σ b = none → w'.heap[b]? = w.heap[b]?
  dom : ∀ b r, σ' b = some r → σ b ≠ none ∨ w.heap.size ≤ b

theorem Sat.lt {w0 w : World} {σ : Vw} (h : Sat w0 σ w) {b : Nat} {r : Row} (hb : σ b = some r) : b < w.heap.size := by
  obtain ⟨_, cur, hc, _⟩ := h.row b r hb
  exact (Array.getElem?_eq_some_iff.1 hc).1

theorem Sat.get {w0 w : World} {σ : Vw} (h : Sat w0 σ w) {a : Addr} {v : Value} (hg : get w0 σ a = some v) : w.cell? a = some v := by
  unfold Av.get at hg
  split at hg
  · rename_i hl; rw [h.bel.cell hl]; exact hg
  · split at hg
    · rename_i hs
      cases hr : σ a.block with
      | none => rw [hr] at hg; cases hg
      | some r =>
        rw [hr] at hg
        obtain ⟨_, cur, hc, hp, _⟩ := h.row _ _ hr
        simp only [Option.bind_some] at hg
        unfold World.cell?
        rw [hc]
        have hlt : a.off < r.cells.length := (List.getElem?_eq_some_iff.1 hg).1
        have := hp.getElem hlt
        simp only [hs, Option.isSome_none, Bool.false_eq_true, if_false]
        rw [List.getElem?_eq_getElem hlt] at hg
        rw [← Array.getElem?_toList, List.getElem?_eq_getElem (by have := hp.length_le; omega), ← this]
        exact hg
    · cases hg

/-! ### worlds -/
theorem Aft.refl {w0 w : World} {σ : Vw} (h : Sat w0 σ w) : Aft w0 σ w σ w := ⟨h, Nat.le_refl _, fun _ _ _ => rfl, fun b r hb => .inl (by rw [hb]; simp)⟩

theorem Aft.trans {w0 w w1 w2 : World} {σ σ1 σ2 : Vw} (h : Aft w0 σ w σ1 w1) (k : Aft w0 σ1 w1 σ2 w2) : Aft w0 σ w σ2 w2 := by
  refine ⟨k.sat, Nat.le_trans h.size k.size, fun b hb hn => ?_, fun b r hb => ?_⟩
  · have h1 : σ1 b = none := by
      cases hs : σ1 b with
      | none => rfl
      | some r => rcases h.dom b r hs with h2 | h2
                  · exact absurd hn h2
                  · omega
    rw [k.fr b (Nat.lt_of_lt_of_le hb h.size) h1, h.fr b hb hn]
  · rcases k.dom b r hb with h2 | h2
    · cases hs : σ1 b with
      | none => exact absurd hs h2
      | some r1 => exact h.dom b r1 hs
    · exact .inr (Nat.le_trans h.size h2)

theorem Sat.drew {w0 w : World} {σ : Vw} (h : Sat w0 σ w) : Sat w0 σ w.drew := ⟨h.bel.drew, h.row⟩
theorem Aft.drew {w0 w w' : World} {σ σ' : Vw} (h : Aft w0 σ w.drew σ' w') : Aft w0 σ w σ' w' := ⟨h.sat, h.size, h.fr, h.dom⟩

theorem Sat.alloc {w0 w : World} {σ : Vw} (h : Sat w0 σ w) (o : Obj) : Sat w0 σ (w.alloc o) := by
  refine ⟨h.bel.alloc h.bel.size o, fun b r hb => ?_⟩
  obtain ⟨h1, cur, hc, h2⟩ := h.row b r hb
  exact ⟨h1, cur, (Below.heap_alloc w o b (h.lt hb)).trans hc, h2⟩

/-- A new block that the view says nothing of. -/
theorem Aft.hid {w0 w : World} {σ : Vw} (h : Sat w0 σ w) (o : Obj) : Aft w0 σ w σ (w.alloc o) :=
  ⟨h.alloc o, by simp, fun b hb _ => Below.heap_alloc w o b hb, fun b r hb => .inl (by rw [hb]; simp)⟩

theorem put_ne {σ : Vw} {b i : Nat} {r : Row} (h : i ≠ b) : σ.put b r i = σ i := by simp [Vw.put, h]
theorem put_eq {σ : Vw} {b : Nat} {r : Row} : σ.put b r b = some r := by simp [Vw.put]

theorem heap_new (w : World) (o : Obj) : (w.alloc o).heap[w.heap.size]? = some o := by unfold World.alloc; simp

theorem Aft.row {w0 w : World} {σ : Vw} (h : Sat w0 σ w) (cur : Array Value) (r : Row) (hp : r.cells <+: cur.toList) (hc : cur.size = r.cap) (hf : r.fz = (0, 0)) :
    Aft w0 σ w (σ.put w.heap.size r) (w.alloc (.cells cur r.ety)) := by
  refine ⟨⟨(h.alloc _).bel, fun b r' hb => ?_⟩, by simp, fun b hb _ => Below.heap_alloc w _ b hb, fun b r' hb => ?_⟩
  · by_cases e : b = w.heap.size
    · subst e
      rw [put_eq] at hb
      cases hb
      exact ⟨h.bel.size, cur, by rw [heap_new, hf], hp, hc, by rw [hf]; exact .inr (Nat.le_refl _)⟩
    · rw [put_ne e] at hb
      exact (h.alloc _).row b r' hb
  · by_cases e : b = w.heap.size
    · exact .inr (by omega)
    · rw [put_ne e] at hb
      exact .inl (by rw [hb]; simp)

theorem fresh {w0 w : World} {σ : Vw} (h : Sat w0 σ w) : w0.heap.size ≤ w.heap.size ∧ σ w.heap.size = none := by
  refine ⟨h.bel.size, ?_⟩
  cases hs : σ w.heap.size with
  | none => rfl
  | some r => exact absurd (h.lt hs) (by omega)

/-! ### reading -/
section
variable {P : Program}
theorem run_loadFrom (w : World) (a : Addr) (g : Nat → Value) : ∀ (n i : Nat) (acc : Array Value), (∀ j, j < n → w.cell? (a.add (i + j)) = some (g (i + j))) →
    (loadCellsFrom a i n acc).run P w = .ok (acc ++ (expl g i n).toArray) w
  | 0, i, acc, _ => by simp [loadCellsFrom, expl]
  | n + 1, i, acc, h => by
    have h0 := h 0 (by omega)
    rw [Nat.add_zero] at h0
    have ih := run_loadFrom w a g n (i + 1) (acc.push (g i)) (fun j hj => by have := h (j + 1) (by omega); rwa [show i + (j + 1) = i + 1 + j by omega] at this)
    simp only [loadCellsFrom, Sem.run_bind, load, Sem.run, h0, Result.andThen_ok, ih]
    congr 1
    apply Array.toList_inj.1
    simp [expl]

theorem tyOf_spec {T : Nat} {g : Bool} {n : Nat} (h : tyOf P T = some (g, n)) (w : World) :
    (isAgg T).run P w = .ok g w ∧ (sizeOf T).run P w = .ok n w ∧ P.cellsOf T = n ∧ (g = false → n = 1) := by
  unfold tyOf at h
  split at h
  · rename_i i d hi hd
    have hsz : (sizeOf T).run P w = .ok i.size w := by simp [sizeOf, typeInfo, hi]
    have hc : P.cellsOf T = i.size := by simp [Program.cellsOf, hi]
    have hu := run_underlying (P := P) (t := T) (d := d) hd
    cases d <;> simp only [Option.some.injEq, Prod.mk.injEq] at h <;>
      first
        | (obtain ⟨rfl, rfl⟩ := h; exact ⟨by simp [isAgg, hu], hsz, hc, by simp⟩)
        | (cases hb : Nat.beq i.size 1 with
           | false => rw [hb] at h; cases h
           | true =>
             rw [hb] at h
             simp only [cond_true, Option.some.injEq, Prod.mk.injEq] at h
             obtain ⟨rfl, rfl⟩ := h
             have := Nat.eq_of_beq_eq_true hb
             rw [this] at hsz hc
             exact ⟨by simp [isAgg, hu], hsz, hc, by simp⟩)
  · cases h

theorem run_loadVar {T : Nat} {g : Bool} {n : Nat} (h : tyOf P T = some (g, n)) (w : World) (a : Addr) (c : Nat → Value) (hc : ∀ j, j < n → w.cell? (a.add j) = some (c j)) :
    (loadVar T a).run P w = .ok (mkVal g (expl c 0 n)) w := by
  obtain ⟨h1, h2, _, h4⟩ := tyOf_spec h w
  have hl := run_loadFrom (P := P) w a c n 0 #[] (fun j hj => by rw [Nat.zero_add]; exact hc j hj)
  cases g with
  | true =>
    simp only [loadVar, Sem.run_bind, h1, Result.andThen_ok, if_true, h2, loadCells, hl, mkVal, Sem.run_pure]
    simp
  | false =>
    obtain rfl := h4 rfl
    have h0 := hc 0 (by omega)
    have ha : a.add 0 = a := by simp [Addr.add]
    rw [ha] at h0
    simp only [loadVar, Sem.run_bind, h1, Result.andThen_ok, Bool.false_eq_true, if_false, load, Sem.run, h0]
    simp [mkVal, expl, Sem.run]
end
end Go.Av

/- The abstract layer, part 4: the frame ('Sim'); a call; a slot written; a box made, a box written; a step of the rows. -/
set_option linter.unusedVariables false
set_option linter.unusedSimpArgs false
namespace Go.Av
open Go Go.RowKit

/-- What a slot holds. -/
def VX (β : Nat → Nat) (bx : Nat → Option (List Value)) : TV → Value → Prop
  | .val u, v => v = u
  | .lit b, v => v = .bool b
  | .lp k j, v => bx k ≠ none ∧ v = .pointer (some ⟨β k, j, none⟩)
  | .ls k n, v => bx k ≠ none ∧ v = .slice (some ⟨β k, 0, none⟩) n n
  | .unk, _ => True
  | .und, v => v = undef

structure BoxOk (w0 : World) (we : World) (σ : Vw) (w : World) (b : Nat) (cs : List Value) : Prop where
  cells : ∃ T cur, w.heap[b]? = some (.cells cur T (0, 0)) ∧ cur.toList = cs
  free : σ b = none
  old : w0.heap.size ≤ b
  own : we.heap.size ≤ b

/-- The frame, its boxes, the rows: as they are told. 'σe', 'we': as the frame was entered. -/
structure Sim (w0 : World) (σe : Vw) (we : World) (fz : Nat) (β : Nat → Nat) (st : St) (σ : Vw) (a : Act) (w : World) : Prop where
  len : st.tmps.length = a.tmps.size
  tm : ∀ i, VX β st.bx (st.tmps.getD i .unk) (a.tmps.getD i undef)
  dfs : a.defers = []
  aft : Aft w0 σe we σ w
  box : ∀ k cs, st.bx k = some cs → BoxOk w0 we σ w (β k) cs
  inj : ∀ k k', st.bx k ≠ none → st.bx k' ≠ none → β k = β k' → k = k'
  sz : a.tmps.size = fz

section
variable {w0 : World} {σe : Vw} {we : World} {fz : Nat} {β : Nat → Nat} {st : St} {σ σ' : Vw} {a : Act} {w w' : World}

theorem Sim.sat (h : Sim w0 σe we fz β st σ a w) : Sat w0 σ w := h.aft.sat

theorem Sim.box_lt (h : Sim w0 σe we fz β st σ a w) {k : Nat} {cs : List Value} (hk : st.bx k = some cs) : β k < w.heap.size := by
  obtain ⟨T, cur, hc, _⟩ := (h.box k cs hk).cells
  exact (Array.getElem?_eq_some_iff.1 hc).1

/-- The rows step on; the frame's boxes are none of them. -/
theorem Sim.step (h : Sim w0 σe we fz β st σ a w) (k : Aft w0 σ w σ' w') : Sim w0 σe we fz β st σ' a w' := by
  refine ⟨h.len, h.tm, h.dfs, h.aft.trans k, fun i cs hi => ?_, h.inj, h.sz⟩
  have hb := h.box i cs hi
  obtain ⟨T, cur, hc, he⟩ := hb.cells
  refine ⟨⟨T, cur, (k.fr _ (h.box_lt hi) hb.free).trans hc, he⟩, ?_, hb.old, hb.own⟩
  cases hs : σ' (β i) with
  | none => rfl
  | some r =>
    rcases k.dom _ r hs with h2 | h2
    · exact absurd hb.free h2
    · have := h.box_lt hi; omega

theorem Sim.put (h : Sim w0 σe we fz β st σ a w) (dst : Option Tmp) {x : TV} {v : Value} (hv : VX β st.bx x v) : Sim w0 σe we fz β (putT st dst x) σ (a.put dst v) w := by
  cases dst with
  | none => exact h
  | some d =>
    refine ⟨by simp [putT, Act.put, h.len], fun i => ?_, h.dfs, h.aft, h.box, h.inj, by simp [Act.put, h.sz]⟩
    have hi := h.tm i
    simp only [putT, Act.put]
    by_cases e : d = i
    · subst e
      by_cases hd : d < st.tmps.length
      · have hd' : d < a.tmps.size := by rw [← h.len]; exact hd
        rw [List.getD_eq_getElem?_getD, List.getElem?_set_self hd]
        rw [Array.getD_eq_getD_getElem?, Array.getElem?_setIfInBounds_self_of_lt hd']
        exact hv
      · have h1 : st.tmps.length ≤ d := Nat.le_of_not_lt hd
        have h2 : a.tmps.size ≤ d := by rw [← h.len]; exact h1
        rw [List.set_eq_of_length_le h1, Array.setIfInBounds_eq_of_size_le h2]
        exact hi
    · rw [List.getD_eq_getElem?_getD, List.getElem?_set_ne e, ← List.getD_eq_getElem?_getD]
      rw [Array.getD_eq_getD_getElem?, Array.getElem?_setIfInBounds_ne e, ← Array.getD_eq_getD_getElem?]
      exact hi

/-- The same world, less told. -/
theorem Sim.slot (h : Sim w0 σe we fz β st σ a w) (t : Tmp) {x : TV} (hv : VX β st.bx x (a.tmps.getD t undef)) : Sim w0 σe we fz β { st with tmps := st.tmps.set t x } σ a w := by
  refine ⟨by simp [h.len], fun i => ?_, h.dfs, h.aft, h.box, h.inj, h.sz⟩
  have hi := h.tm i
  show VX β st.bx ((st.tmps.set t x).getD i .unk) _
  by_cases e : t = i
  · subst e
    by_cases hd : t < st.tmps.length
    · rw [List.getD_eq_getElem?_getD, List.getElem?_set_self hd]
      exact hv
    · have h1 : st.tmps.length ≤ t := Nat.le_of_not_lt hd
      rw [List.set_eq_of_length_le h1]
      exact hi
  · rw [List.getD_eq_getElem?_getD, List.getElem?_set_ne e, ← List.getD_eq_getElem?_getD]
    exact hi

theorem eff_ne {k i : Nat} {cs : List Value} (h : i ≠ k) : (st.eff (some (k, cs))).bx i = st.bx i := by
  simp only [St.eff]
  cases hb : Nat.beq k i with
  | true => exact absurd (Nat.eq_of_beq_eq_true hb).symm h
  | false => rfl
theorem eff_eq {k : Nat} {cs : List Value} : (st.eff (some (k, cs))).bx k = some cs := by
  simp only [St.eff]
  rw [show Nat.beq k k = true from Nat.beq_refl k]; rfl

def upd (β : Nat → Nat) (k b : Nat) : Nat → Nat := fun i => if i = k then b else β i

/-- A box is made. -/
theorem Sim.newBox (h : Sim w0 σe we fz β st σ a w) {k : Nat} (hk : st.bx k = none) (T : TypeId) (cur : Array Value) :
    Sim w0 σe we fz (upd β k w.heap.size) (st.eff (some (k, cur.toList))) σ a (w.alloc (.cells cur T)) ∧ upd β k w.heap.size k = w.heap.size := by
  refine ⟨⟨h.len, fun i => ?_, h.dfs, h.aft.trans (Aft.hid h.sat _), fun i cs hi => ?_, fun i j hi hj e => ?_, h.sz⟩, by simp [upd]⟩
  · have := h.tm i
    show VX _ _ (st.tmps.getD i .unk) _
    cases hx : st.tmps.getD i .unk with
    | val u => rw [hx] at this; exact this
    | lit b => rw [hx] at this; exact this
    | unk => exact trivial
    | und => rw [hx] at this; exact this
    | lp k' j =>
      rw [hx] at this
      obtain ⟨h1, h2⟩ := this
      have e : k' ≠ k := fun e => h1 (e ▸ hk)
      exact ⟨by rw [eff_ne e]; exact h1, by rw [h2]; simp [upd, e]⟩
    | ls k' n =>
      rw [hx] at this
      obtain ⟨h1, h2⟩ := this
      have e : k' ≠ k := fun e => h1 (e ▸ hk)
      exact ⟨by rw [eff_ne e]; exact h1, by rw [h2]; simp [upd, e]⟩
  · by_cases e : i = k
    · subst e
      rw [eff_eq] at hi
      cases hi
      refine ⟨⟨T, cur, by simp only [upd, if_true]; exact heap_new w _, rfl⟩, ?_, ?_, ?_⟩
      · simp only [upd, if_true]; exact (fresh h.sat).2
      · simp only [upd, if_true]; exact (fresh h.sat).1
      · simp only [upd, if_true]; exact h.aft.size
    · rw [eff_ne e] at hi
      have hb := h.box i cs hi
      obtain ⟨T', cur', hc, he⟩ := hb.cells
      have hu : upd β k w.heap.size i = β i := by simp [upd, e]
      rw [hu]
      exact ⟨⟨T', cur', (Below.heap_alloc w _ _ (h.box_lt hi)).trans hc, he⟩, hb.free, hb.old, hb.own⟩
  · by_cases ei : i = k <;> by_cases ej : j = k
    · rw [ei, ej]
    · subst ei
      rw [eff_ne ej] at hj
      cases hcs : st.bx j with
      | none => exact absurd hcs hj
      | some cs =>
        have := h.box_lt hcs
        simp only [upd, if_true, if_neg ej] at e
        omega
    · subst ej
      rw [eff_ne ei] at hi
      cases hcs : st.bx i with
      | none => exact absurd hcs hi
      | some cs =>
        have := h.box_lt hcs
        simp only [upd, if_true, if_neg ei] at e
        omega
    · rw [eff_ne ei] at hi
      rw [eff_ne ej] at hj
      simp only [upd, if_neg ei, if_neg ej] at e
      exact h.inj i j hi hj e

/-- A box is written. -/
theorem Sim.setBox (h : Sim w0 σe we fz β st σ a w) {k : Nat} {cs cs' : List Value} (hk : st.bx k = some cs) (hw : w'.heap.size = w.heap.size) (hos : w'.os = w.os) (htp : w'.tape = w.tape) (hout : w'.output = w.output)
    (hf : ∀ b, b ≠ β k → w'.heap[b]? = w.heap[b]?) (hc : ∃ T cur, w'.heap[β k]? = some (.cells cur T (0, 0)) ∧ cur.toList = cs') :
    Sim w0 σe we fz β (st.eff (some (k, cs'))) σ a w' := by
  have hb := h.box k cs hk
  have hsat : Sat w0 σ w' := by
    refine ⟨⟨hos.trans h.sat.bel.os, htp.trans h.sat.bel.tape, hout.trans h.sat.bel.output, by rw [hw]; exact h.sat.bel.size, fun i hi => ?_⟩, fun b r hr => ?_⟩
    · have := hb.old
      rw [hf i (by omega)]
      exact h.sat.bel.block i hi
    · obtain ⟨h1, cur, h2, h3⟩ := h.sat.row b r hr
      refine ⟨h1, cur, (hf b fun e => ?_).trans h2, h3⟩
      rw [e, hb.free] at hr
      cases hr
  refine ⟨h.len, fun i => ?_, h.dfs, ⟨hsat, by rw [hw]; exact h.aft.size, fun b hb' hn => ?_, h.aft.dom⟩, fun i cs1 hi => ?_, fun i j hi hj e => ?_, h.sz⟩
  · have := h.tm i
    show VX _ _ (st.tmps.getD i .unk) _
    have keep : ∀ k', st.bx k' ≠ none → (st.eff (some (k, cs'))).bx k' ≠ none := fun k' hk' => by
      by_cases e : k' = k
      · subst e; rw [eff_eq]; simp
      · rw [eff_ne e]; exact hk'
    cases hx : st.tmps.getD i .unk with
    | val u => rw [hx] at this; exact this
    | lit b => rw [hx] at this; exact this
    | unk => exact trivial
    | und => rw [hx] at this; exact this
    | lp k' j => rw [hx] at this; exact ⟨keep _ this.1, this.2⟩
    | ls k' n => rw [hx] at this; exact ⟨keep _ this.1, this.2⟩
  · have := hb.own
    rw [hf b (by omega)]
    exact h.aft.fr b hb' hn
  · by_cases e : i = k
    · subst e
      rw [eff_eq] at hi
      cases hi
      exact ⟨hc, hb.free, hb.old, hb.own⟩
    · rw [eff_ne e] at hi
      have hb' := h.box i cs1 hi
      obtain ⟨T', cur', hc', he⟩ := hb'.cells
      refine ⟨⟨T', cur', (hf _ fun e' => e ?_).trans hc', he⟩, hb'.free, hb'.old, hb'.own⟩
      exact h.inj i k (by rw [hi]; simp) (by rw [hk]; simp) e'
  · refine h.inj i j ?_ ?_ e
    · by_cases ei : i = k
      · subst ei; rw [hk]; simp
      · rwa [eff_ne ei] at hi
    · by_cases ej : j = k
      · subst ej; rw [hk]; simp
      · rwa [eff_ne ej] at hj
end

/-- The call of a function: in whatever world fits the view it returns, and what it returns, and the view then, meet R. -/
def AC (P : Program) (w0 : World) (f : FuncId) (args : List Value) (σ : Vw) (R : Value → Vw → Prop) : Prop :=
  (∃ fn, P.funcs[f]? = some fn ∧ (fn.name == "runtime.NumGoroutine") = false ∧ fn.body.isNone = false) ∧
  ∀ w, Sat w0 σ w → Calls P f args.toArray w fun e w' => ∃ v σ', e = .returned v ∧ R v σ' ∧ Aft w0 σ w σ' w'

theorem AC.mono {P : Program} {w0 : World} {f : FuncId} {args : List Value} {σ : Vw} {R R' : Value → Vw → Prop} (h : AC P w0 f args σ R) (hr : ∀ v σ', R v σ' → R' v σ') : AC P w0 f args σ R' :=
  ⟨h.1, fun w hw => (h.2 w hw).mono fun e w' ⟨v, σ', he, hR, ha⟩ => ⟨v, σ', he, hr _ _ hR, ha⟩⟩
end Go.Av

/- The abstract layer, part 5: append, make, stores: what they do to the view. -/
set_option linter.unusedVariables false
set_option linter.unusedSimpArgs false
namespace Go.Av
open Go Go.RowKit

section
variable {P : Program} {w0 : World} {σ : Vw} {w : World}

theorem own_row {e sz n : Nat} {v : Value} {cells : List Value} (h : Own σ e sz v n cells) (hs : Sat w0 σ w) : w.ownsRow w0.heap.size e sz v n cells := by
  obtain ⟨hl, h⟩ := h
  refine ⟨hl, ?_⟩
  rcases h with h | ⟨b, c, rfl, hb, hn, hm⟩
  · exact .inl h
  · obtain ⟨h1, cur, h2, h3, h4, _⟩ := hs.row b _ hb
    refine .inr ⟨b, c, cur, rfl, h1, h2, hn, by simp only [maxLen]; omega, h4, ?_⟩
    have := List.prefix_iff_eq_take.1 h3
    simp only at this
    rw [hl] at this
    exact this.symm

theorem app_new (hs : Sat w0 σ w) {e sz k c : Nat} {xs : List Value} (z : Array Value) (hx : xs.length = k * sz) (hz : z.size = sz) (hc : k ≤ c) (hm : c ≤ 9223372036854775807) (v : Value) :
    Grew w0 σ (σ.put w.heap.size ⟨e, xs, c * sz, (0, 0)⟩) e sz v (.slice (some ⟨w.heap.size, 0, none⟩) k c) k xs ∧
    Aft w0 σ w (σ.put w.heap.size ⟨e, xs, c * sz, (0, 0)⟩) (w.drew.alloc (.cells (xs.toArray ++ Builtin.zeroCells z (c - k)) e)) := by
  refine ⟨.inr ⟨w.heap.size, c, rfl, hc, hm, rfl, (fresh hs).1, .inl (fresh hs).2⟩, Aft.drew ?_⟩
  refine Aft.row (w := w.drew) hs.drew _ ⟨e, xs, c * sz, (0, 0)⟩ ?_ ?_ rfl
  · simp
  · simp only [Array.size_append, List.size_toArray, size_zeroCells, hz, hx, ← Nat.add_mul]
    congr 1
    omega

theorem run_app (hs : Sat w0 σ w) {T e ty sz : Nat} {i : TypeInfo} {z : Value} (hu : P.underlying T = some (.slice e)) (hi : P.info? e = some i) (hz : i.zero = some z) (hsz : i.size = sz) (hzs : z.cells.size = sz) (hpos : 0 < sz)
    {v : Value} {n m c : Nat} {A : Option Addr} {cells new : List Value} (own : Own σ e sz v n cells) (hl : new.length = m * sz) (hsrc : ∀ j u, new[j]? = some u → ∃ a, A = some a ∧ w.cell? (a.add j) = some u)
    (h1 : ∀ u ∈ new, u.oneCell' = true) (h63 : n + m ≤ 9223372036854775807) (hb : (n + m) * i.bytes ≤ 140737488355328) :
    ∃ v' σ' w', (Builtin.append_ #[T, T] ty #[v, .slice A m c]).run P w = .ok v' w' ∧ Grew w0 σ σ' e sz v v' (n + m) (cells ++ new) ∧ Aft w0 σ w σ' w' := by
  subst hsz
  have hlen : (cells ++ new).length = (n + m) * i.size := by rw [List.length_append, own.1, hl, Nat.add_mul]
  have hrow := own_row own hs
  rcases Nat.eq_zero_or_pos m with hm | hm
  · subst hm
    have hnew : new = [] := List.eq_nil_of_length_eq_zero (by simpa using hl)
    subst hnew
    rcases own.2 with ⟨rfl, rfl⟩ | ⟨b, c0, rfl, hbr, hn, hcm⟩
    · have hx : cells = [] := List.eq_nil_of_length_eq_zero (by simpa using own.1)
      subst hx
      refine ⟨.slice none 0 0, σ, w, ?_, .inl ⟨rfl, rfl, rfl, rfl, rfl⟩, Aft.refl hs⟩
      cases A <;> simp [Builtin.append_, run_underlying hu, sizeOf, typeInfo, hi, Builtin.lenOf, Builtin.firstCells, loadCells, loadCellsFrom]
    · refine ⟨.slice (some ⟨b, 0, none⟩) n c0, σ, w, ?_, .inr ⟨b, c0, rfl, hn, hcm, ?_, (hs.row b _ hbr).1, .inr ⟨n, c0, rfl⟩⟩, Aft.refl hs⟩
      · cases A <;> simp [Builtin.append_, run_underlying hu, sizeOf, typeInfo, hi, Builtin.lenOf, Builtin.firstCells, loadCells, loadCellsFrom, hn, storeCells]
      · funext j
        by_cases e' : j = b
        · subst e'; rw [put_eq, hbr, List.append_nil]
        · rw [put_ne e']
  · obtain ⟨u0, hu0⟩ : ∃ u, new[0]? = some u := by
      have : 0 < new.length := by rw [hl]; exact Nat.mul_pos hm hpos
      exact ⟨_, List.getElem?_eq_getElem this⟩
    obtain ⟨ad, rfl, _⟩ := hsrc 0 u0 hu0
    have hnews : ∀ j u, new[j]? = some u → w.cell? (ad.add j) = some u := fun j u hj => by
      obtain ⟨a', ha, h⟩ := hsrc j u hj
      cases ha
      exact h
    have hfit : ∀ old, old < n + m → Builtin.nextslicecap (n + m) old * i.bytes ≤ 281474976710656 := fun old ho => growslice_fits (by omega) hb
    rcases own.2 with ⟨rfl, rfl⟩ | ⟨b, c0, rfl, hbr, hn, hcm⟩
    · have hx : cells = [] := List.eq_nil_of_length_eq_zero (by simpa using own.1)
      subst hx
      have hr := run_append_nil (P := P) w T ty e i z hu hi hz ad m c new hl hnews hm (by omega) (by have := hb; simp only [Nat.zero_add] at this; omega)
      have hg := app_new hs (e := e) (k := m) (c := grownCap w m 0 e) z.cells hl hzs (grownCap_ge w m 0 e) (by have := grownCap_le_maxLen w m 0 e (by simp only [maxLen]; omega); simp only [maxLen] at this; omega) (.slice none 0 0)
      simp only [Nat.zero_add, List.nil_append]
      exact ⟨_, _, _, hr, hg.1, hg.2⟩
    · obtain ⟨hw0, cur, hcur, hpre, hcap, _⟩ := hs.row b _ hbr
      simp only at hcur hpre hcap
      have htake : cur.toList.take (n * i.size) = cells := by have := List.prefix_iff_eq_take.1 hpre; rw [own.1] at this; exact this.symm
      by_cases hroom : n + m ≤ c0
      · have hfit2 : n * i.size + new.length ≤ cur.size := by rw [hl, hcap, ← Nat.add_mul]; exact Nat.mul_le_mul_right _ hroom
        have hr := run_append_room (P := P) w T ty e i hu hi b n c0 cur hcur ad m c new hl hnews h1 hroom hfit2
        refine ⟨_, σ.put b ⟨e, cells ++ new, c0 * i.size, (0, 0)⟩, _, hr, .inr ⟨b, c0, rfl, hroom, hcm, rfl, hw0, .inr ⟨n, c0, rfl⟩⟩, ?_⟩
        rw [htake]
        have hhp := setRow_heap w b cur (cells ++ new ++ cur.toList.drop (n * i.size + new.length)).toArray e (0, 0) hcur
        have hot : ∀ k, k ≠ b → (w.setRow b (cells ++ new ++ cur.toList.drop (n * i.size + new.length)).toArray).heap[k]? = w.heap[k]? := fun k hk => setRow_other w b k _ hk
        refine ⟨⟨⟨hs.bel.os, hs.bel.tape, hs.bel.output, by simpa using hs.bel.size, fun k hk => ?_⟩, fun k r hk => ?_⟩, by simp, fun k hk hn' => ?_, fun k r hk => ?_⟩
        · rw [hot k (by omega)]; exact hs.bel.block k hk
        · by_cases ek : k = b
          · subst ek
            rw [put_eq] at hk
            cases hk
            refine ⟨hw0, _, hhp, ?_, ?_, .inr (Nat.le_refl _)⟩
            · simp
            · have hcl : cur.toList.length = cur.size := by simp
              simp only [List.size_toArray, List.length_append, List.length_drop, own.1, hcl]
              omega
          · rw [put_ne ek] at hk
            obtain ⟨p1, cur', p2, p3⟩ := hs.row k r hk
            exact ⟨p1, cur', (hot k ek).trans p2, p3⟩
        · rw [hot k (fun ek => by rw [ek, hbr] at hn'; cases hn')]
        · by_cases ek : k = b
          · subst ek; exact .inl (by rw [hbr]; simp)
          · rw [put_ne ek] at hk; exact .inl (by rw [hk]; simp)
      · have holds : ∀ j u, cells[j]? = some u → w.cell? ((⟨b, 0, none⟩ : Addr).add j) = some u := hrow.cells (g := b) rfl
        have hr := run_append_grow (P := P) w T ty e i z hu hi hz ⟨b, 0, none⟩ n c0 cells own.1 holds ad m c new hl hnews (by omega) (by omega) (hfit c0 (by omega))
        have hg := app_new hs (e := e) (k := n + m) (c := grownCap w (n + m) c0 e) z.cells hlen hzs (grownCap_ge w (n + m) c0 e) (by have := grownCap_le_maxLen w (n + m) c0 e (by simp only [maxLen]; omega); simp only [maxLen] at this; omega) (.slice (some ⟨b, 0, none⟩) n c0)
        rw [show (cells ++ new).toArray = cells.toArray ++ new.toArray by simp] at hg
        exact ⟨_, _, _, hr, hg.1, hg.2⟩

/-- An append to a slice that fills its row, whatever becomes of the row's spare cells. -/
theorem run_app_full (hs : Sat w0 σ w) {T e ty sz : Nat} {i : TypeInfo} {z : Value} (hu : P.underlying T = some (.slice e)) (hi : P.info? e = some i) (hz : i.zero = some z) (hsz : i.size = sz) (hzs : z.cells.size = sz) (hpos : 0 < sz)
    {b c m cc : Nat} {r : Row} {A : Option Addr} {new : List Value} (hr : σ b = some r) (hcl : r.cells.length = c * sz) (hm : 0 < m) (hl : new.length = m * sz) (hsrc : ∀ j u, new[j]? = some u → ∃ a, A = some a ∧ w.cell? (a.add j) = some u)
    (h63 : c + m ≤ 9223372036854775807) (hb : (c + m) * i.bytes ≤ 140737488355328) :
    ∃ c' w', (Builtin.append_ #[T, T] ty #[.slice (some ⟨b, 0, none⟩) c c, .slice A m cc]).run P w = .ok (.slice (some ⟨w.heap.size, 0, none⟩) (c + m) c') w' ∧ c + m ≤ c' ∧ c' ≤ 9223372036854775807 ∧ Aft w0 σ w (σ.put w.heap.size ⟨e, r.cells ++ new, c' * sz, (0, 0)⟩) w' := by
  subst hsz
  have hlen : (r.cells ++ new).length = (c + m) * i.size := by rw [List.length_append, hcl, hl, Nat.add_mul]
  obtain ⟨u0, hu0⟩ : ∃ u, new[0]? = some u := by
    have : 0 < new.length := by rw [hl]; exact Nat.mul_pos hm hpos
    exact ⟨_, List.getElem?_eq_getElem this⟩
  obtain ⟨ad, rfl, _⟩ := hsrc 0 u0 hu0
  have hnews : ∀ j u, new[j]? = some u → w.cell? (ad.add j) = some u := fun j u hj => by
    obtain ⟨a', ha, h⟩ := hsrc j u hj
    cases ha
    exact h
  have hfit : ∀ old, old < c + m → Builtin.nextslicecap (c + m) old * i.bytes ≤ 281474976710656 := fun old ho => growslice_fits (by omega) hb
  obtain ⟨hw0, cur, hcur, hpre, hcap, _⟩ := hs.row b _ hr
  have holds : ∀ j u, r.cells[j]? = some u → w.cell? ((⟨b, 0, none⟩ : Addr).add j) = some u := fun j u hj => by
    have hadd : (⟨b, 0, none⟩ : Addr).add j = ⟨b, j, none⟩ := by unfold Addr.add; split <;> simp_all
    rw [hadd, cell_of_row w b j cur r.ety r.fz hcur, ← Array.getElem?_toList]
    obtain ⟨t, ht⟩ := hpre
    rw [← ht, List.getElem?_append_left (List.getElem?_eq_some_iff.1 hj).1]
    exact hj
  have hrun := run_append_grow (P := P) w T ty e i z hu hi hz ⟨b, 0, none⟩ c c r.cells hcl holds ad m cc new hl hnews (by omega) (by omega) (hfit c (by omega))
  have hge := grownCap_ge w (c + m) c e
  have hle := grownCap_le_maxLen w (c + m) c e (by simp only [maxLen]; omega)
  simp only [maxLen] at hle
  have hg := app_new hs (e := e) (k := c + m) (c := grownCap w (c + m) c e) z.cells hlen hzs hge hle (.slice (some ⟨b, 0, none⟩) c c)
  rw [show (r.cells ++ new).toArray = r.cells.toArray ++ new.toArray by simp] at hg
  exact ⟨_, _, hrun, hge, hle, hg.2⟩
end
end Go.Av

/- The abstract layer, part 6: stores, make, literals: what they do. -/
set_option linter.unusedVariables false
set_option linter.unusedSimpArgs false
namespace Go.Av
open Go Go.RowKit

theorem length_setAt : ∀ (vs cs : List Value) (j : Nat), (setAt cs j vs).length = cs.length
  | [], _, _ => rfl
  | v :: r, cs, j => by rw [setAt, length_setAt r]; simp

theorem length_expl (f : Nat → Value) : ∀ n i, (expl f i n).length = n
  | 0, _ => rfl
  | n + 1, i => by simp [expl, length_expl f n]

theorem expl_get (f : Nat → Value) : ∀ n i j, j < n → (expl f i n)[j]? = some (f (i + j))
  | 0, _, _, h => by omega
  | n + 1, i, 0, _ => by simp [expl]
  | n + 1, i, j + 1, h => by
    simp only [expl, List.getElem?_cons_succ]
    rw [expl_get f n (i + 1) j (by omega)]
    congr 2
    omega

theorem expl_self (cs : List Value) : expl (fun i => cs.getD i undef) 0 cs.length = cs := by
  apply List.ext_getElem?
  intro j
  by_cases h : j < cs.length
  · rw [expl_get _ _ _ _ h, Nat.zero_add, List.getElem?_eq_getElem h, List.getD_eq_getElem?_getD, List.getElem?_eq_getElem h]; rfl
  · rw [List.getElem?_eq_none (by rw [length_expl]; omega), List.getElem?_eq_none (by omega)]

theorem spread_agg (cs : List Value) : spread cs.length (.agg ⟨cs⟩) = cs := expl_self cs

theorem okV_cells {g : Bool} {n : Nat} {v : Value} (h : okV g n v) (hn : g = false → n = 1) : cellsL v = cellsT g n v ∧ v.cells.size = n ∧ (∀ c, c ∈ cellsT g n v → c.oneCell' = true) := by
  cases g with
  | true =>
    obtain ⟨cs, rfl, rfl, h1⟩ := h
    refine ⟨?_, rfl, ?_⟩
    · show cs = _; rw [cellsT, spread_agg]
    · rw [cellsT, spread_agg]; exact h1
  | false =>
    obtain rfl := hn rfl
    simp only [okV] at h
    cases v <;> simp_all [cellsL, Value.cells, cellsT, Value.oneCell']

section
variable {P : Program} {w0 : World} {σ : Vw} {w : World}

theorem run_storeRow (g o : Nat) (t : TypeId) (fz : Nat × Nat) : ∀ (vs : List Value) (i : Nat) (cur : Array Value) (w : World), w.heap[g]? = some (.cells cur t fz) → o + i + vs.length ≤ cur.size → (cur.size ≤ fz.1 ∨ fz.2 ≤ fz.1) →
    (∀ v ∈ vs, v.oneCell' = true) → (storeCells ⟨g, o, none⟩ vs i).run P w = .ok () (w.setRow g (setAt cur.toList (o + i) vs).toArray)
  | [], i, cur, w, hg, _, _, _ => by
    simp only [storeCells, setAt, Array.toArray_toList]
    rw [setRow_self w g cur t fz hg]
    rfl
  | v :: rest, i, cur, w, hg, hl, hf, h1 => by
    simp only [List.length_cons] at hl
    have hcell : w.cell? ⟨g, o + i, none⟩ = some cur[o + i] := by
      unfold World.cell?
      rw [hg]
      simp
    have hfr : w.frozen? ⟨g, o + i, none⟩ = false := by
      unfold World.frozen?
      rw [hg]
      simp only [Bool.and_eq_false_iff, decide_eq_false_iff_not]
      omega
    have hv := h1 v List.mem_cons_self
    have hset : w.setCell ⟨g, o + i, none⟩ v = w.setRow g (cur.setIfInBounds (o + i) v) := by
      unfold World.setCell World.setRow
      congr 1
      apply Array.ext_getElem?
      intro k
      simp only [Array.getElem?_modify]
      by_cases e : g = k
      · subst e; simp [hg]
      · simp [e]
    have ih := run_storeRow g o t fz rest (i + 1) (cur.setIfInBounds (o + i) v) (w.setRow g (cur.setIfInBounds (o + i) v)) (setRow_heap w g cur _ t fz hg) (by simp; omega) (by simpa using hf) (fun u hu => h1 u (List.mem_cons_of_mem _ hu))
    have ha : (⟨g, o, none⟩ : Addr).add i = ⟨g, o + i, none⟩ := by unfold Addr.add; split <;> simp_all
    simp only [storeCells, Sem.run_bind, ha]
    rw [run_store P w _ v .plain hv]
    simp only [hcell, hfr, Bool.false_eq_true, if_false, Result.andThen_ok]
    rw [hset, ih, setRow_setRow]
    simp [setAt, Nat.add_assoc]

theorem Aft.set (hs : Sat w0 σ w) {b : Nat} {r : Row} (hb : σ b = some r) {off : Nat} {vs : List Value} (hl : off + vs.length ≤ r.cells.length) {T : Nat} {g : Bool} {n : Nat} {u : Value} (ht : tyOf P T = some (g, n)) (hu : okV g n u) (hvs : vs = cellsT g n u) :
    ∃ w', (storeVar T ⟨b, off, none⟩ u).run P w = .ok () w' ∧ Aft w0 σ w (σ.put b { r with cells := setAt r.cells off vs }) w' := by
  obtain ⟨h1, h2, _, h4⟩ := tyOf_spec ht w
  obtain ⟨p1, p2, p3⟩ := okV_cells hu h4
  subst hvs
  obtain ⟨hw0, cur, hcur, hpre, hcap, hfz⟩ := hs.row b r hb
  have hle : r.cells.length ≤ cur.size := by have := hpre.length_le; simpa using this
  have hst := run_storeRow (P := P) b off r.ety r.fz (cellsT g n u) 0 cur w hcur (by omega) hfz p3
  refine ⟨w.setRow b (setAt cur.toList off (cellsT g n u)).toArray, ?_, ?_⟩
  · simp only [storeVar, Sem.run_bind, h2, Result.andThen_ok, p2]
    rw [show u.cells.toList = cellsT g n u from p1]
    simp only [ne_eq, not_true_eq_false, if_false]
    simpa using hst
  · rw [Nat.add_zero] at *
    have hot : ∀ k, k ≠ b → (w.setRow b (setAt cur.toList off (cellsT g n u)).toArray).heap[k]? = w.heap[k]? := fun k hk => setRow_other w b k _ hk
    have hhp := setRow_heap w b cur (setAt cur.toList off (cellsT g n u)).toArray r.ety r.fz hcur
    refine ⟨⟨⟨hs.bel.os, hs.bel.tape, hs.bel.output, by simpa using hs.bel.size, fun k hk => ?_⟩, fun k r' hk => ?_⟩, by simp, fun k hk hn' => ?_, fun k r' hk => ?_⟩
    · rw [hot k (by omega)]; exact hs.bel.block k hk
    · by_cases ek : k = b
      · subst ek
        rw [put_eq] at hk
        cases hk
        refine ⟨hw0, _, hhp, ?_, by simp [length_setAt, hcap], by simpa [length_setAt] using hfz⟩
        obtain ⟨t, ht'⟩ := hpre
        refine ⟨t, ?_⟩
        simp only
        rw [← ht']
        have : ∀ (vs xs ys : List Value) (j : Nat), j + vs.length ≤ xs.length → setAt xs j vs ++ ys = setAt (xs ++ ys) j vs := by
          intro vs
          induction vs with
          | nil => intros; rfl
          | cons v rest ih =>
            intro xs ys j hj
            simp only [List.length_cons] at hj
            simp only [setAt]
            rw [ih _ _ _ (by simp; omega), List.set_append_left _ _ (by omega)]
        exact this _ _ _ _ hl
      · rw [put_ne ek] at hk
        obtain ⟨q1, cur', q2, q3⟩ := hs.row k r' hk
        exact ⟨q1, cur', (hot k ek).trans q2, q3⟩
    · rw [hot k (fun ek => by rw [ek, hb] at hn'; cases hn')]
    · by_cases ek : k = b
      · subst ek; exact .inl (by rw [hb]; simp)
      · rw [put_ne ek] at hk; exact .inl (by rw [hk]; simp)

/-- A row that was written. -/
theorem Aft.at (hs : Sat w0 σ w) {b : Nat} {r : Row} (hb : σ b = some r) {off : Nat} {vs : List Value} (hl : off + vs.length ≤ r.cells.length) {cur : Array Value} (hcur : w.heap[b]? = some (.cells cur r.ety r.fz)) :
    Aft w0 σ w (σ.put b { r with cells := setAt r.cells off vs }) (w.setRow b (setAt cur.toList off vs).toArray) := by
  obtain ⟨hw0, cur', hcur', hpre, hcap, hfz⟩ := hs.row b r hb
  rw [hcur] at hcur'
  cases hcur'
  have hot : ∀ k, k ≠ b → (w.setRow b (setAt cur.toList off vs).toArray).heap[k]? = w.heap[k]? := fun k hk => setRow_other w b k _ hk
  have hhp := setRow_heap w b cur (setAt cur.toList off vs).toArray r.ety r.fz hcur
  refine ⟨⟨⟨hs.bel.os, hs.bel.tape, hs.bel.output, by simpa using hs.bel.size, fun k hk => ?_⟩, fun k r' hk => ?_⟩, by simp, fun k hk hn' => ?_, fun k r' hk => ?_⟩
  · rw [hot k (by omega)]; exact hs.bel.block k hk
  · by_cases ek : k = b
    · subst ek
      rw [put_eq] at hk
      cases hk
      refine ⟨hw0, _, hhp, ?_, by simp [length_setAt, hcap], by simpa [length_setAt] using hfz⟩
      obtain ⟨t, ht'⟩ := hpre
      refine ⟨t, ?_⟩
      simp only
      rw [← ht']
      have : ∀ (vs xs ys : List Value) (j : Nat), j + vs.length ≤ xs.length → setAt xs j vs ++ ys = setAt (xs ++ ys) j vs := by
        intro vs
        induction vs with
        | nil => intros; rfl
        | cons v rest ih =>
          intro xs ys j hj
          simp only [List.length_cons] at hj
          simp only [setAt]
          rw [ih _ _ _ (by simp; omega), List.set_append_left _ _ (by omega)]
      exact this _ _ _ _ hl
    · rw [put_ne ek] at hk
      obtain ⟨q1, cur', q2, q3⟩ := hs.row k r' hk
      exact ⟨q1, cur', (hot k ek).trans q2, q3⟩
  · rw [hot k (fun ek => by rw [ek, hb] at hn'; cases hn')]
  · by_cases ek : k = b
    · subst ek; exact .inl (by rw [hb]; simp)
    · rw [put_ne ek] at hk; exact .inl (by rw [hk]; simp)
end
end Go.Av

/- The abstract layer, part 7: an operation does what 'denOp' says. -/
set_option linter.unusedVariables false
set_option linter.unusedSimpArgs false
namespace Go.Av
open Go Go.RowKit

section
variable {P : Program} {w0 : World} {σe : Vw} {we : World} {fz : Nat} {β : Nat → Nat} {st : St} {σ : Vw} {a : Act} {w : World}

/-- What an operation has left: its value, the boxes, the rows. -/
def Out (w0 : World) (σe : Vw) (we : World) (fz : Nat) (st : St) (a : Act) (x : TV) (e : Eff) (σ' : Vw) (v : Value) (w' : World) : Prop :=
  ∃ β', Sim w0 σe we fz β' (st.eff e) σ' a w' ∧ VX β' (st.eff e).bx x v

theorem Sim.ev (h : Sim w0 σe we fz β st σ a w) (x : Operand) : VX β st.bx (ev st x) (a.eval x) := by
  cases x with
  | tmp t => exact h.tm t
  | const v => cases v <;> rfl
  | global g => rfl
  | func f => rfl

theorem Sim.toV (h : Sim w0 σe we fz β st σ a w) {x : Operand} {v : Value} (hx : toV (Av.ev st x) = some v) : a.eval x = v := by
  have := h.ev x
  cases hev : Av.ev st x with
  | val u => rw [hev] at this hx; cases hx; exact this
  | lit b => rw [hev] at this hx; cases hx; exact this
  | lp k j => rw [hev] at hx; cases hx
  | ls k j => rw [hev] at hx; cases hx
  | unk => rw [hev] at hx; cases hx
  | und => rw [hev] at hx; cases hx

theorem Sim.toVs (h : Sim w0 σe we fz β st σ a w) : ∀ {xs : List Operand} {vs : List Value}, toVs st xs = some vs → xs.map a.eval = vs
  | [], vs, hx => by cases hx; rfl
  | x :: r, vs, hx => by
    simp only [Av.toVs] at hx
    split at hx
    · rename_i v hv
      split at hx
      · rename_i us hu
        cases hx
        simp only [List.map_cons, h.toV hv, h.toVs hu]
      · cases hx
    · cases hx

theorem Sim.oV (h : Sim w0 σe we fz β st σ a w) {x : Option Operand} {v : Option Value} (hx : oV st x = some v) : x.map a.eval = v := by
  cases x with
  | none => cases hx; rfl
  | some x =>
    simp only [Av.oV] at hx
    split at hx
    · rename_i u hu
      cases hx
      simp [h.toV hu]
    · cases hx

theorem wp_value {o : Oper} {v : Value} {w' : World} {next : Act → World → Prop} {Q : Exit → Act → World → Prop} (hr : (execOp a.eval o).run P w = .ok (.value v) w') (hk : next (a.put o.dst v) w') : o.wp P a w next Q := by
  unfold Oper.wp
  rw [hr]
  exact hk
theorem wp_skipped {o : Oper} {w' : World} {next : Act → World → Prop} {Q : Exit → Act → World → Prop} (hr : (execOp a.eval o).run P w = .ok .skip w') (hk : next (a.put o.dst undef) w') : o.wp P a w next Q := by
  unfold Oper.wp
  rw [hr]
  exact hk

theorem Sim.same (h : Sim w0 σe we fz β st σ a w) {x : TV} {v : Value} (hv : VX β st.bx x v) : Out w0 σe we fz st a x none σ v w := ⟨β, h, hv⟩

theorem Sim.rows (h : Sim w0 σe we fz β st σ a w) {σ' : Vw} {w' : World} (k : Aft w0 σ w σ' w') (v : Value) : Out w0 σe we fz st a (.val v) none σ' v w' := ⟨β, h.step k, rfl⟩

theorem offOf_run {T f o : Nat} (h : offOf P T f = some o) (w : World) (ad : Addr) : (Instr.fieldAt T (.pointer (some ad)) f).run P w = .ok (.pointer (some (ad.add o))) w := by
  unfold offOf at h
  split at h
  · rename_i fs hu
    split at h
    · rename_i x hx
      split at h
      · rename_i g n ht
        obtain ⟨_, h2, _⟩ := tyOf_spec ht w
        cases hb : Nat.beq n 0 with
        | true => rw [hb] at h; cases h
        | false =>
          rw [hb] at h
          simp only [cond_false, Option.some.injEq] at h
          subst h
          have hn : n ≠ 0 := fun e => by subst e; cases hb
          simp [Instr.fieldAt, run_underlying hu, hx, Instr.sureAddr, fieldPlace, h2, hn]
      · cases h
    · cases h
  · cases h

/-- A block that is made becomes a box, or a row. -/
theorem mk_sound {esc : Nat → Bool} {dst : Option Tmp} {ety : Nat} {cs : List Value} {loc : Nat → TV} {far : Nat → Value} {K : TV → Eff → Vw → Prop} (hs : Sim w0 σe we fz β st σ a w) (h : mkBox w0 esc dst ety st cs σ loc far K)
    (hloc : ∀ (β' : Nat → Nat) k bx, bx k ≠ none → VX β' bx (loc k) (far (β' k))) : ∃ x e σ', K x e σ' ∧ Out w0 σe we fz st a x e σ' (far w.heap.size) (w.alloc (.cells cs.toArray ety)) := by
  unfold mkBox at h
  split at h
  · rename_i k
    split at h
    · have hf := fresh hs.sat
      exact ⟨_, _, _, h _ hf.1 hf.2, hs.rows (Aft.row hs.sat cs.toArray ⟨ety, cs, cs.length, (0, 0)⟩ (by simp) (by simp) rfl) _⟩
    · split at h
      · rename_i hk
        obtain ⟨h1, h2⟩ := hs.newBox hk ety cs.toArray
        refine ⟨_, _, _, h, upd β k w.heap.size, h1, ?_⟩
        have := hloc (upd β k w.heap.size) k (st.eff (some (k, cs))).bx (by rw [eff_eq]; simp)
        rw [h2] at this
        exact this
      · exact h.elim
  · exact h.elim

/-- The parts of a literal. -/
theorem fill_sound (hs : Sim w0 σe we fz β st σ a w) {place : Nat → Option (Nat × (Bool × Nat))} {place' : Nat → Option (Nat × Nat)} (hp : ∀ i o g n, place i = some (o, (g, n)) → place' i = some (o, n) ∧ (g = false → n = 1)) :
    ∀ (ps : List (Nat × Operand)) (cs : List Value) (A : List Value → Prop), fillParts st place ps cs A → ∃ cs', A cs' ∧ cs'.length = cs.length ∧ Instr.fill place' cs.toArray (ps.map fun (i, x) => (i, a.eval x)) = some cs'.toArray
  | [], cs, A, h => ⟨cs, h, rfl, rfl⟩
  | (i, x) :: r, cs, A, h => by
    simp only [fillParts] at h
    split at h
    · rename_i off g n v hpl hv
      cases hb : Nat.ble (off + n) cs.length with
      | false => rw [hb] at h; exact h.elim
      | true =>
        rw [hb] at h
        obtain ⟨hok, h⟩ := h
        obtain ⟨hp1, hp2⟩ := hp i off g n hpl
        obtain ⟨q1, q2, q3⟩ := okV_cells hok hp2
        obtain ⟨cs', hA, hl, hf⟩ := fill_sound hs hp r _ A h
        refine ⟨cs', hA, hl.trans (length_setAt _ _ _), ?_⟩
        have hle := Nat.le_of_ble_eq_true hb
        have key : ∀ (us : List Value) (m : Nat) (c : List Value), ((us.zipIdx m).foldl (fun (c : Array Value) (p : Value × Nat) => c.setIfInBounds (off + p.2) p.1) c.toArray) = (setAt c (off + m) us).toArray := by
          intro us
          induction us with
          | nil => intro m c; rfl
          | cons u us ih =>
            intro m c
            simp only [List.zipIdx_cons, List.foldl_cons, setAt]
            rw [show c.toArray.setIfInBounds (off + m) u = (c.set (off + m) u).toArray by simp, ih (m + 1)]
            rfl
        simp only [List.map_cons, Instr.fill, hp1, hs.toV hv]
        have hz : (v.cells.zipIdx.foldl (fun cs (x : Value × Nat) => match x with | (c, j) => cs.setIfInBounds (off + j) c) cs.toArray) = (setAt cs off (cellsT g n v)).toArray := by
          have := key (cellsT g n v) 0 cs
          rw [Nat.add_zero] at this
          rw [← this, ← q1]
          simp only [cellsL]
          rw [← Array.foldl_toList, Array.toList_zipIdx]
        have hcond : ¬ (v.cells.size ≠ n ∨ off + v.cells.size > cs.toArray.size) := by
          rw [q2]; simp; omega
        simp only [bne_iff_ne, Bool.or_eq_true, decide_eq_true_eq, hcond, if_false]
        rw [hz]
        exact hf
    · exact h.elim
end
end Go.Av

/- The abstract layer, part 8: the operations, one by one. -/
set_option linter.unusedVariables false
set_option linter.unusedSimpArgs false
namespace Go.Av
open Go Go.RowKit

section
variable {P : Program} {w0 : World} {σe : Vw} {we : World} {fz : Nat} {β : Nat → Nat} {st : St} {σ : Vw} {a : Act} {w : World} {esc : Nat → Bool} {K : TV → Eff → Vw → Prop} {next : Act → World → Prop} {Q : Exit → Act → World → Prop}

theorem zeroOf_spec {T : Nat} {cs : List Value} (h : zeroOf P T = some cs) (w : World) : ∃ i z, P.info? T = some i ∧ i.zero = some z ∧ cellsL z = cs ∧ cs.length = i.size ∧ (zeroValue T).run P w = .ok z w := by
  unfold zeroOf at h
  split at h
  · rename_i i hi
    split at h
    · rename_i z hz
      cases hb : Nat.beq (cellsL z).length i.size with
      | false => rw [hb] at h; cases h
      | true =>
        rw [hb] at h
        cases h
        exact ⟨i, z, hi, hz, rfl, Nat.eq_of_beq_eq_true hb, by simp [zeroValue, typeInfo, hi, hz]⟩
    · cases h
  · cases h

theorem elemOf_spec {T e : Nat} (h : elemOf P T = some e) : P.underlying T = some (.slice e) := by
  unfold elemOf at h
  split at h
  · cases h; assumption
  · cases h

theorem tyOf_size {T : Nat} {g : Bool} {n : Nat} (h : tyOf P T = some (g, n)) {i : TypeInfo} (hi : P.info? T = some i) : i.size = n := by
  have := (tyOf_spec h default).2.2.1
  simpa [Program.cellsOf, hi] using this

theorem equal_as (T : Nat) (x y : Value) : ∃ d, Op.equal T x y = Op.equalIn (d + 1) T x y := ⟨9999, rfl⟩

theorem run_equal_bool (T : Nat) (hT : P.underlying T = some .bool) (x y : Bool) : (Op.equal T (.bool x) (.bool y)).run P w = .ok (x == y) w := by
  obtain ⟨d, hd⟩ := equal_as T (.bool x) (.bool y)
  rw [hd]
  simp only [Op.equalIn, Sem.run_bind, run_underlying hT, Result.andThen_ok, Sem.run_pure]

theorem run_equal_ptr {e : Nat} (T : Nat) (hT : P.underlying T = some (.pointer e)) (x : Option Addr) : (Op.equal T (.pointer x) (.pointer none)).run P w = .ok x.isNone w := by
  obtain ⟨d, hd⟩ := equal_as T (.pointer x) (.pointer none)
  rw [hd]
  cases x <;> simp only [Op.equalIn, Sem.run_bind, run_underlying hT, Result.andThen_ok, Sem.run_pure, Option.isNone_none, Option.isNone_some]

theorem run_equal_slice {e : Nat} (T : Nat) (hT : P.underlying T = some (.slice e)) (x : Option Addr) (n c n' c' : Nat) : (Op.equal T (.slice x n c) (.slice none n' c')).run P w = .ok x.isNone w := by
  obtain ⟨d, hd⟩ := equal_as T (.slice x n c) (.slice none n' c')
  rw [hd]
  cases x <;> simp only [Op.equalIn, Sem.run_bind, run_underlying hT, Result.andThen_ok, Sem.run_pure, Option.isNone_none, Option.isNone_some]

/-- The operators that are reckoned with. -/
theorem bin_sound {op : BinOp} {T : Nat} {x y : Operand} {u v r : Value} (h : abinT P T op u v = some r) :
    (do eqGuard op T x y u v; binOp op T u v : Sem Value).run P w = .ok r w := by
  unfold abinT at h
  split at h
  · -- integers
    rename_i k p k' q
    split at h
    · rename_i hk
      subst hk
      cases op <;> simp only [aint] at h <;>
        first
          | (cases h; simp [eqGuard, binOp, Op.intArith, Op.intCmp]; done)
          | (cases h; simp [eqGuard, binOp, Op.intBits]; done)
          | (split at h
             · cases h
             · rename_i hq; cases h; simp [eqGuard, binOp, Op.intDiv, hq])
          | cases h
    · cases h
  · -- strings
    rename_i p q
    cases op <;> simp only [astr] at h <;>
      first
        | (cases h; simp [eqGuard, binOp, Op.stringOp])
        | (split at h
           · cases h
           · rename_i hq; cases h; simp only [eqGuard, binOp, Op.stringOp, Sem.run_bind, hq, if_false]; simp)
        | cases h
  · -- bools
    rename_i p q
    split at h
    · rename_i hT
      cases op <;> simp only at h <;>
        first
          | (cases h; simp only [eqGuard, binOp, Sem.run_bind, run_equal_bool T hT, Result.andThen_ok, Sem.run_pure]; simp)
          | cases h
    · cases h
  · rename_i p
    split at h
    · rename_i e hT
      cases op <;> simp only at h <;>
        first
          | (cases h; simp only [eqGuard, binOp, Sem.run_bind, run_equal_ptr T hT, Result.andThen_ok, Sem.run_pure]; simp)
          | cases h
    · cases h
  · rename_i p
    split at h
    · rename_i e hT
      cases op <;> simp only at h <;>
        first
          | (cases h; simp only [eqGuard, binOp, Sem.run_bind, run_equal_slice T hT, Result.andThen_ok, Sem.run_pure]; simp)
          | cases h
    · cases h
  · rename_i xs ys
    unfold aggB at h
    split at h
    · rename_i hq
      have hr := Classical.choose_spec hq.2 w
      cases op <;> simp only at h <;>
        first
          | (cases h; simp only [Sem.run_bind, run_eqGuard_agg w _ T x y xs ys hq.1, Result.andThen_ok, run_eql_struct, run_neq_struct, hr])
          | cases h
    · cases h
  · cases h
end
end Go.Av

/- The abstract layer, part 9: an operation does what 'denOp' says. -/
set_option linter.unusedVariables false
set_option linter.unusedSimpArgs false
namespace Go.Av
open Go Go.RowKit

section
variable {P : Program} {w0 : World} {σe : Vw} {we : World} {fz : Nat} {β : Nat → Nat} {st : St} {σ : Vw} {a : Act} {w : World} {esc : Nat → Bool} {gk : List (Nat × Bool)} {K : TV → Eff → Vw → Prop} {next : Act → World → Prop} {Q : Exit → Act → World → Prop} {o : Oper}

theorem load_sound (hs : Sim w0 σe we fz β st σ a w) {T : Nat} {x : Operand} (hop : o.op = .load T x) (h : denOp P w0 (AC P w0) esc gk o.dst (.load T x) st σ K)
    (hn : ∀ x e σ' v w', K x e σ' → Out w0 σe we fz st a x e σ' v w' → next (a.put o.dst v) w') : o.wp P a w next Q := by
  simp only [denOp] at h
  split at h
  · rename_i g n ht
    have hx := hs.ev x
    split at h
    · rename_i k j hk
      rw [hk] at hx
      obtain ⟨_, hx⟩ := hx
      split at h
      · rename_i cs hcs
        split at h
        · rename_i hb
          have hb := Nat.le_of_ble_eq_true hb
          obtain ⟨T', cur, hcur, rfl⟩ := (hs.box k _ hcs).cells
          refine wp_value (w' := w) (v := mkVal g (expl (fun i => cur.toList.getD i undef) j n)) ?_ (hn _ _ _ _ _ h (hs.same rfl))
          have hl := run_loadVar ht w ⟨β k, j, none⟩ (fun i => cur.toList.getD (j + i) undef) (fun i hi => by
            rw [show (⟨β k, j, none⟩ : Addr).add i = ⟨β k, j + i, none⟩ by unfold Addr.add; split <;> simp_all]
            unfold World.cell?
            rw [hcur]
            have : j + i < cur.size := by have := hb; simp at this; omega
            simp [this])
          have he : ∀ m i, expl (fun i => cur.toList.getD (j + i) undef) i m = expl (fun i => cur.toList.getD i undef) (j + i) m := by
            intro m
            induction m with
            | zero => intro i; rfl
            | succ m ih => intro i; simp only [expl]; rw [ih (i + 1)]; rfl
          rw [he n 0, Nat.add_zero] at hl
          simp only [execOp, hop, hx, Instr.loadAt, Instr.sureAddr, Sem.run_bind, Sem.run_pure, Result.andThen_ok, hl]
        · exact h.elim
      · exact h.elim
    · rename_i v hv
      rw [hv] at hx
      obtain ⟨ad, c, rfl, hc, hK⟩ := h
      refine wp_value (w' := w) (v := mkVal g (expl c 0 n)) ?_ (hn _ _ _ _ _ hK (hs.same rfl))
      have hl := run_loadVar ht w ad c (fun i hi => hs.sat.get (hc i hi))
      have hx' : a.eval x = .pointer (some ad) := hx
      simp only [execOp, hop, hx', Instr.loadAt, Instr.sureAddr, Sem.run_bind, Sem.run_pure, Result.andThen_ok, hl]
    · exact h.elim
  · exact h.elim

theorem store_sound (hs : Sim w0 σe we fz β st σ a w) {T : Nat} {x y : Operand} (hop : o.op = .store T x y) (h : denOp P w0 (AC P w0) esc gk o.dst (.store T x y) st σ K)
    (hn : ∀ x e σ' v w', K x e σ' → Out w0 σe we fz st a x e σ' v w' → next (a.put o.dst v) w') : o.wp P a w next Q := by
  simp only [denOp] at h
  split at h
  · rename_i g n u ht hu
    obtain ⟨hok, h⟩ := h
    have hy := hs.toV hu
    have hx := hs.ev x
    obtain ⟨t1, t2, _, t4⟩ := tyOf_spec ht w
    obtain ⟨p1, p2, p3⟩ := okV_cells hok t4
    split at h
    · rename_i k j hk
      rw [hk] at hx
      obtain ⟨_, hx⟩ := hx
      split at h
      · rename_i old hold
        split at h
        · rename_i hb
          have hb := Nat.le_of_ble_eq_true hb
          obtain ⟨T', cur, hcur, rfl⟩ := (hs.box k _ hold).cells
          have hlen : (cellsT g n u).length = n := by rw [← p1]; exact p2
          have hst := run_storeRow (P := P) (β k) j T' (0, 0) (cellsT g n u) 0 cur w hcur (by simp at hb; omega) (.inr (Nat.le_refl _)) p3
          rw [Nat.add_zero] at hst
          have hrun : (storeVar T ⟨β k, j, none⟩ u).run P w = .ok () (w.setRow (β k) (setAt cur.toList j (cellsT g n u)).toArray) := by
            simp only [storeVar, Sem.run_bind, t2, Result.andThen_ok, p2]
            rw [show u.cells.toList = cellsT g n u from p1]
            simp only [ne_eq, not_true_eq_false, if_false]
            exact hst
          refine wp_skipped (w' := w.setRow (β k) (setAt cur.toList j (cellsT g n u)).toArray) ?_ (hn _ _ _ _ _ h ⟨β, ?_, rfl⟩)
          · simp only [execOp, hop, hx, hy, Instr.storeAt, Instr.sureAddr, Sem.run_bind, Sem.run_pure, Result.andThen_ok, hrun]
          · exact hs.setBox hold (by simp) rfl rfl rfl (fun b hb' => setRow_other w _ b _ hb') ⟨T', _, setRow_heap w _ cur _ T' (0, 0) hcur, by simp⟩
        · exact h.elim
      · exact h.elim
    · rename_i v hv
      rw [hv] at hx
      obtain ⟨b, off, r, rfl, hr, hl, hK⟩ := h
      obtain ⟨w', hrun, haft⟩ := Aft.set hs.sat hr hl ht hok rfl
      have hx' : a.eval x = .pointer (some ⟨b, off, none⟩) := hx
      refine wp_skipped (w' := w') ?_ (hn _ _ _ _ _ hK (hs.rows haft _))
      simp only [execOp, hop, hx', hy, Instr.storeAt, Instr.sureAddr, Sem.run_bind, Sem.run_pure, Result.andThen_ok, hrun]
    · exact h.elim
  · exact h.elim

theorem alloc_sound (hs : Sim w0 σe we fz β st σ a w) {T : Nat} (hop : o.op = .alloc T) (h : denOp P w0 (AC P w0) esc gk o.dst (.alloc T) st σ K)
    (hn : ∀ x e σ' v w', K x e σ' → Out w0 σe we fz st a x e σ' v w' → next (a.put o.dst v) w') : o.wp P a w next Q := by
  simp only [denOp] at h
  split at h
  · rename_i cs hz
    obtain ⟨i, z, hi, hiz, hzc, hl, hrun⟩ := zeroOf_spec hz w
    obtain ⟨x, e, σ', hK, hout⟩ := mk_sound hs h (fun β' k bx hb => ⟨hb, rfl⟩)
    refine wp_value ?_ (hn _ _ _ _ _ hK hout)
    subst hzc
    simp [execOp, hop, Instr.alloc, hrun, newVar, newRow, newObj, Sem.run, cellsL]
  · exact h.elim

theorem box_sound (hs : Sim w0 σe we fz β st σ a w) {T : Nat} {x : Operand} (hop : o.op = .box T x) (h : denOp P w0 (AC P w0) esc gk o.dst (.box T x) st σ K)
    (hn : ∀ x e σ' v w', K x e σ' → Out w0 σe we fz st a x e σ' v w' → next (a.put o.dst v) w') : o.wp P a w next Q := by
  simp only [denOp] at h
  split at h
  · rename_i v g n hv ht
    obtain ⟨hok, h⟩ := h
    obtain ⟨p1, p2, p3⟩ := okV_cells hok (tyOf_spec ht w).2.2.2
    obtain ⟨x', e, σ', hK, hout⟩ := mk_sound hs h (fun β' k bx hb => ⟨hb, rfl⟩)
    refine wp_value ?_ (hn _ _ _ _ _ hK hout)
    rw [← p1]
    simp [execOp, hop, hs.toV hv, Instr.box, newVar, newRow, newObj, Sem.run, cellsL]
  · exact h.elim

theorem places_of : ∀ (fs : List Field), allTy P fs = true → ∃ places, fs.mapM (fun f => (P.info? f.type).map fun i => (f.offset, i.size)) = some places ∧ ∀ j : Nat, places[j]? = (fs[j]?).map fun f => (f.offset, P.cellsOf f.type)
  | [], _ => ⟨[], rfl, fun j => by simp⟩
  | f :: r, h => by
    simp only [allTy] at h
    split at h
    · rename_i ty hty
      obtain ⟨ps, h1, h2⟩ := places_of r h
      have hi : ∃ i, P.info? f.type = some i := by
        unfold tyOf at hty
        split at hty
        · exact ⟨_, by assumption⟩
        · cases hty
      obtain ⟨i, hi⟩ := hi
      refine ⟨(f.offset, i.size) :: ps, by simp [List.mapM_cons, hi, h1], fun j => ?_⟩
      cases j with
      | zero => simp [Program.cellsOf, hi]
      | succ j => simp [h2]
    · cases h

theorem build_sound (hs : Sim w0 σe we fz β st σ a w) {T : Nat} {parts : Array (Nat × Operand)} (hop : o.op = .build T parts) (h : denOp P w0 (AC P w0) esc gk o.dst (.build T parts) st σ K)
    (hn : ∀ x e σ' v w', K x e σ' → Out w0 σe we fz st a x e σ' v w' → next (a.put o.dst v) w') : o.wp P a w next Q := by
  simp only [denOp] at h
  split at h
  · rename_i fs cs hu hz
    obtain ⟨i, z, hi, hiz, hzc, hl, hrun⟩ := zeroOf_spec hz w
    split at h
    · rename_i hall
      obtain ⟨places, hp1, hp2⟩ := places_of fs.toList hall
      obtain ⟨cs', hK, hl', hf⟩ := fill_sound hs (place' := (places[·]?)) (fun i off g n he => by
        split at he
        · rename_i f hf
          split at he
          · rename_i ty hty
            cases he
            obtain ⟨_, _, t3, t4⟩ := tyOf_spec hty w
            refine ⟨?_, t4⟩
            show places[i]? = _
            rw [hp2, Array.getElem?_toList, hf]
            simp [t3]
          · cases he
        · cases he) _ _ _ h
      refine wp_value (w' := w) (v := .agg ⟨cs'⟩) ?_ (hn _ _ _ _ _ hK (hs.same rfl))
      have hb : P.built T (parts.toList.map fun (i, x) => (i, a.eval x)) = some ⟨cs'⟩ := by
        subst hzc
        unfold Program.built
        simp only [hi, hu, hiz, hp1]
        have : (cellsL z).toArray = z.cells := by simp [cellsL]
        rw [← this]
        simpa using hf
      have hr := run_build (P := P) w T (parts.map fun (i, x) => (i, a.eval x)) ⟨cs'⟩ (by rw [Array.toList_map]; exact hb)
      simp only [execOp, hop, Sem.run_bind, hr, Result.andThen_ok, Sem.run_pure]
    · exact h.elim
  · rename_i len e cs hu hz
    obtain ⟨i, z, hi, hiz, hzc, hl, hrun⟩ := zeroOf_spec hz w
    split at h
    · rename_i g n hty
      obtain ⟨t1, t2, t3, t4⟩ := tyOf_spec hty w
      have hin : ∃ ie, P.info? e = some ie ∧ ie.size = n := by
        cases hie : P.info? e with
        | none => unfold tyOf at hty; rw [hie] at hty; cases hty
        | some ie => exact ⟨ie, rfl, by simpa [sizeOf, typeInfo, hie] using t2⟩
      obtain ⟨ie, hie, hsz⟩ := hin
      obtain ⟨cs', hK, hl', hf⟩ := fill_sound hs (place' := fun i => some (i * n, n)) (fun i off g' n' he => by
        cases he
        exact ⟨rfl, t4⟩) _ _ _ h
      refine wp_value (w' := w) (v := .agg ⟨cs'⟩) ?_ (hn _ _ _ _ _ hK (hs.same rfl))
      have hb : P.built T (parts.toList.map fun (i, x) => (i, a.eval x)) = some ⟨cs'⟩ := by
        subst hzc
        unfold Program.built
        simp only [hi, hu, hiz, hie, hsz]
        have : (cellsL z).toArray = z.cells := by simp [cellsL]
        rw [← this]
        simpa using hf
      have hr := run_build (P := P) w T (parts.map fun (i, x) => (i, a.eval x)) ⟨cs'⟩ (by rw [Array.toList_map]; exact hb)
      simp only [execOp, hop, Sem.run_bind, hr, Result.andThen_ok, Sem.run_pure]
    · exact h.elim
  · exact h.elim
end
end Go.Av

/- The abstract layer, part 10: the other operations; then all of them. -/
set_option linter.unusedVariables false
set_option linter.unusedSimpArgs false
namespace Go.Av
open Go Go.RowKit

section
variable {P : Program} {w0 : World} {σe : Vw} {we : World} {fz : Nat} {β : Nat → Nat} {st : St} {σ : Vw} {a : Act} {w : World} {esc : Nat → Bool} {gk : List (Nat × Bool)} {K : TV → Eff → Vw → Prop} {next : Act → World → Prop} {Q : Exit → Act → World → Prop} {o : Oper}

theorem length_replL (z : List Value) : ∀ n, (replL z n).length = n * z.length
  | 0 => by simp [replL]
  | n + 1 => by simp only [replL, List.length_append, length_replL z n, Nat.succ_mul]; omega

theorem replL_flat (z : List Value) : ∀ n, replL z n = (List.replicate n z).flatten
  | 0 => rfl
  | n + 1 => by simp [replL, replL_flat z n, List.replicate_succ]

theorem madeCells_get (z : Array Value) (n k j : Nat) (hz : z.size = k) (hj : j < n * k) : ((Array.range (n * k)).map (z[· % z.size]!))[j]? = z[j % k]? := by
  have hk : 0 < k := by rcases Nat.eq_zero_or_pos k with h | h; · subst h; omega
                        · exact h
  have hm : j % k < z.size := by rw [hz]; exact Nat.mod_lt _ hk
  simp [Array.getElem?_range, hj, hz, Array.getElem?_eq_getElem hm, getElem!_pos z (j % k) hm]

theorem replL_get (z : List Value) (k : Nat) (hz : z.length = k) (hk : 0 < k) : ∀ n j, j < n * k → (replL z n)[j]? = z[j % k]?
  | 0, j, h => by omega
  | n + 1, j, h => by
    simp only [replL]
    by_cases hj : j < k
    · rw [List.getElem?_append_left (by omega), Nat.mod_eq_of_lt hj]
    · have hj2 : j - k < n * k := by rw [Nat.succ_mul] at h; omega
      rw [List.getElem?_append_right (by omega), hz, replL_get z k hz hk n (j - k) hj2]
      congr 1
      exact (Nat.mod_eq_sub_mod (by omega)).symm

theorem made_repl (z : Value) (k n : Nat) (hz : (cellsL z).length = k) (hk : 0 < k) : (Array.range (n * k)).map (z.cells[· % z.cells.size]!) = (replL (cellsL z) n).toArray := by
  apply Array.ext_getElem?
  intro j
  have hzs : z.cells.size = k := by simpa [cellsL] using hz
  by_cases h : j < n * k
  · rw [madeCells_get z.cells n k j hzs h]
    have h2 := replL_get (cellsL z) k hz hk n j h
    rw [← Array.getElem?_toList, ← Array.getElem?_toList (xs := (replL (cellsL z) n).toArray)]
    exact h2.symm
  · rw [Array.getElem?_eq_none (by simp; omega), List.getElem?_toArray, List.getElem?_eq_none (by rw [length_replL, hz]; omega)]

theorem buildSlice_sound (hs : Sim w0 σe we fz β st σ a w) {T len : Nat} {parts : Array (Nat × Operand)} (hop : o.op = .buildSlice T len parts) (h : denOp P w0 (AC P w0) esc gk o.dst (.buildSlice T len parts) st σ K)
    (hn : ∀ x e σ' v w', K x e σ' → Out w0 σe we fz st a x e σ' v w' → next (a.put o.dst v) w') : o.wp P a w next Q := by
  simp only [denOp] at h
  split at h
  · rename_i e he
    have hu := elemOf_spec he
    split at h
    · rename_i z g n hz ht
      split at h
      · rename_i hb
        have hb := Nat.le_of_ble_eq_true hb
        obtain ⟨i, z', hi, hiz, hzc, hl, hrun⟩ := zeroOf_spec hz w
        obtain ⟨t1, t2, t3, t4⟩ := tyOf_spec ht w
        have hsz := tyOf_size ht hi
        obtain ⟨cs', hK, hl', hf⟩ := fill_sound hs (place' := fun i => some (i * (n + 1), n + 1)) (fun i off g' n' he => by
          cases he
          exact ⟨rfl, t4⟩) _ _ _ h
        obtain ⟨x, e', σ', hK', hout⟩ := mk_sound hs hK (fun β' k bx hb => ⟨hb, rfl⟩)
        refine wp_value ?_ (hn _ _ _ _ _ hK' hout)
        have hmade := made_repl z' (n + 1) len (by rw [hzc, hl, hsz]) (by omega)
        have hfl : Instr.fill (fun i => some (i * (n + 1), n + 1)) (replL z len).toArray (parts.map fun (i, x) => (i, a.eval x)).toList = some cs'.toArray := by
          rw [Array.toList_map]; exact hf
        have hsmall : ¬ len * (n + 1) > 2 ^ 24 := by omega
        rw [hzc] at hmade
        cases len with
        | zero =>
          simp only [Nat.zero_mul] at hmade
          have hrz : (replL z 0).toArray = #[] := rfl
          rw [hrz] at hfl
          have h00 : ¬ (0 > 2 ^ 24) := by omega
          have hfl' : Instr.fill (fun i => some (i * (n + 1), n + 1)) (Array.map (fun x => (#[] : Array Value)[x % (#[] : Array Value).size]!) (Array.range 0)) (parts.map fun (i, x) => (i, a.eval x)).toList = some cs'.toArray := by
            rw [Array.range_zero', Array.map_empty]; exact hfl
          simp only [execOp, hop, Instr.buildSlice, Sem.run_bind, run_underlying hu, Result.andThen_ok, t2, if_false, Nat.zero_mul, if_true, Sem.run_pure, h00, hfl', newRow, newObj, Sem.run]
          rfl
        | succ len =>
          have hpos : ¬ (len + 1) * (n + 1) = 0 := by simp
          simp only [execOp, hop, Instr.buildSlice, Sem.run_bind, run_underlying hu, Result.andThen_ok, t2, hsmall, if_false, hpos, hrun, Sem.run_pure, hmade, hfl, newRow, newObj, Sem.run]
          rfl
      · exact h.elim
    · exact h.elim
  · exact h.elim

theorem makeSlice_sound (hs : Sim w0 σe we fz β st σ a w) {T : Nat} {l c : Operand} (hop : o.op = .makeSlice T l c) (h : denOp P w0 (AC P w0) esc gk o.dst (.makeSlice T l c) st σ K)
    (hn : ∀ x e σ' v w', K x e σ' → Out w0 σe we fz st a x e σ' v w' → next (a.put o.dst v) w') : o.wp P a w next Q := by
  simp only [denOp] at h
  split at h
  · rename_i e lv cv he hlv hcv
    have hu := elemOf_spec he
    split at h
    · rename_i z g n hz ht
      obtain ⟨i, z', hi, hiz, hzc, hl, hrun⟩ := zeroOf_spec hz w
      have hsz := tyOf_size ht hi
      obtain ⟨k, m, rfl, rfl, h0, h63, hby, hK⟩ := h
      have hf := fresh hs.sat
      have hbytes : P.bytesOf e = i.bytes := by simp [Program.bytesOf, hi]
      have hr := run_make (P := P) w T e i z' hu hi hiz k k m m h0 (Int.le_refl _) (by rw [hbytes] at hby; omega) h63
      have hmade : madeCells z'.cells (m.toNat * i.size) = (replL (cellsL z') m.toNat).toArray := by
        rw [hsz]; exact made_repl z' (n + 1) m.toNat (by rw [hzc, hl, hsz]) (by omega)
      rw [hmade, hzc, replL_flat] at hr
      refine wp_value (w' := w.alloc (.cells (List.replicate m.toNat z).flatten.toArray e)) (v := .slice (some ⟨w.heap.size, 0, none⟩) m.toNat m.toNat) ?_ (hn _ _ _ _ _ (hK _ hf.1 hf.2) (hs.rows ?_ _))
      · simp only [execOp, hop, hs.toV hlv, hs.toV hcv, Sem.run_bind, hr, Result.andThen_ok, Sem.run_pure]
      · refine Aft.row hs.sat _ ⟨e, (List.replicate m.toNat z).flatten, m.toNat * (n + 1), (0, 0)⟩ (by simp) ?_ rfl
        rw [← replL_flat]
        simp only [List.size_toArray, length_replL]
        rw [hl, hsz]
    · exact h.elim
  · exact h.elim
end
end Go.Av

/- The abstract layer, part 11: the rest of the operations; then all of them. -/
set_option linter.unusedVariables false
set_option linter.unusedSimpArgs false
namespace Go.Av
open Go Go.RowKit

section
variable {P : Program} {w0 : World} {σe : Vw} {we : World} {fz : Nat} {β : Nat → Nat} {st : St} {σ : Vw} {a : Act} {w : World} {esc : Nat → Bool} {gk : List (Nat × Bool)} {K : TV → Eff → Vw → Prop} {next : Act → World → Prop} {Q : Exit → Act → World → Prop} {o : Oper}

theorem convert_sound (hs : Sim w0 σe we fz β st σ a w) {s d : Nat} {x : Operand} (hop : o.op = .convert s d x) (h : denOp P w0 (AC P w0) esc gk o.dst (.convert s d x) st σ K)
    (hn : ∀ x e σ' v w', K x e σ' → Out w0 σe we fz st a x e σ' v w' → next (a.put o.dst v) w') : o.wp P a w next Q := by
  simp only [denOp] at h
  split at h
  · rename_i k1 k v hsu hdu hv
    obtain ⟨k', m, rfl, hK⟩ := h
    refine wp_value (w' := w) (v := .int k (k.wrap m)) ?_ (hn _ _ _ _ _ hK (hs.same rfl))
    simp only [execOp, hop, hs.toV hv, convert, Sem.run_bind, run_underlying hsu, run_underlying hdu, Result.andThen_ok]
    cases k1 <;> simp [Conv.intToInt]
  · rename_i e v hsu hdu hv
    split at h
    · rename_i heu
      rcases h with ⟨n, c, rfl, hK⟩ | ⟨b, off, n, c, xs, rfl, hl, hc, hK⟩
      · refine wp_value (w' := w) ?_ (hn _ _ _ _ _ hK (hs.same rfl))
        simp only [execOp, hop, hs.toV hv, Sem.run_bind, run_convert_bytes_nil w s e hsu heu n c d hdu, Result.andThen_ok, Sem.run_pure]
      · refine wp_value (w' := w) ?_ (hn _ _ _ _ _ hK (hs.same rfl))
        have := run_convert_bytes_arg (P := P) w s e hsu heu b off n c xs hl (fun i hi => hs.sat.get (hc i hi)) d hdu
        simp only [execOp, hop, hs.toV hv, Sem.run_bind, this, Result.andThen_ok, Sem.run_pure]
    · exact h.elim
  · rename_i e v hsu hdu hv
    split at h
    · rename_i heu
      obtain ⟨str, rfl, hK⟩ := h
      have hf := fresh hs.sat
      have hr := run_bytes_of_string (P := P) w s d e str hsu hdu heu
      refine wp_value (w' := _) ?_ (hn _ _ _ _ _ (hK w.heap.size (grownCap w str.size 0 e) hf.1 hf.2 (grownCap_ge w str.size 0 e)) (hs.rows (Aft.drew (w' := w.drew.alloc (.cells (bytesRow str (grownCap w str.size 0 e)) e ((bytesRow str (grownCap w str.size 0 e)).size, (bytesRow str (grownCap w str.size 0 e)).size + 1))) ?_) _))
      · simp only [execOp, hop, hs.toV hv, Sem.run_bind, hr, Result.andThen_ok, Sem.run_pure]
      · have hge := grownCap_ge w str.size 0 e
        generalize grownCap w str.size 0 e = C at hge
        have hsz : (bytesRow str C).size = C := by simp [bytesRow]; omega
        rw [hsz]
        refine ⟨⟨(hs.sat.drew.alloc _).bel, fun b r hb => ?_⟩, by simp, fun b hb _ => Below.heap_alloc w.drew _ b hb, fun b r hb => ?_⟩
        · by_cases eb : b = w.heap.size
          · subst eb
            rw [put_eq] at hb
            cases hb
            refine ⟨hf.1, bytesRow str C, heap_new w.drew _, ?_, hsz, .inl (by simp only; omega)⟩
            simp [bytesRow]
          · rw [put_ne eb] at hb
            exact (hs.sat.drew.alloc _).row b r hb
        · by_cases eb : b = w.heap.size
          · exact .inr (by subst eb; exact Nat.le_refl _)
          · rw [put_ne eb] at hb
            exact .inl (by rw [hb]; simp)
    · exact h.elim
  · exact h.elim

theorem bound_run {x : Option Value} {d : Nat} {l : Int} (h : boundOf d x = some l) : x = none ∧ l = d ∨ ∃ k, x = some (.int k l) := by
  unfold boundOf at h
  split at h
  · cases h; exact .inl ⟨rfl, rfl⟩
  · cases h; exact .inr ⟨_, rfl⟩
  · cases h

theorem bounds_run {isS : Bool} {len cap : Nat} {lo hi : Option Value} {l h : Int} (hl : boundOf 0 lo = some l) (hh : boundOf len hi = some h) (h0 : 0 ≤ l) (h1 : l ≤ h) (h2 : h ≤ cap) :
    (Instr.sliceBounds isS len cap lo hi none).run P w = .ok (l.toNat, h.toNat, cap) w := by
  have e1 : (l.toNat : Int) = l := Int.toNat_of_nonneg h0
  have e2 : (h.toNat : Int) = h := Int.toNat_of_nonneg (by omega)
  rcases bound_run hh with ⟨rfl, rfl⟩ | ⟨k2, rfl⟩ <;> rcases bound_run hl with ⟨rfl, rfl⟩ | ⟨k1, rfl⟩
  · simp [Instr.sliceBounds]
  · have : l ≤ (len : Int) := h1
    simp [Instr.sliceBounds, Instr.sliceBound, asIntOf, h0, this]
  · have hq : 0 ≤ h := by omega
    simp [Instr.sliceBounds, Instr.sliceBound, asIntOf, hq, h2]
  · have hq : 0 ≤ h := by omega
    have hq2 : l ≤ (h.toNat : Int) := by omega
    simp [Instr.sliceBounds, Instr.sliceBound, asIntOf, hq, h2, h0]
    intro hc
    omega

theorem bounds3_run {c l h m : Int} {len cap : Nat} {lo hi mx : Option Value} (hl : boundOf 0 lo = some l) (hi1 : hi.isSome = true) (hr : boundOf len hi = some h) (hm1 : mx.isSome = true) (hm : boundOf cap mx = some m) (h0 : 0 ≤ l) (h1 : l ≤ h) (h2 : h ≤ m) (h3 : m ≤ cap) :
    (Instr.sliceBounds true len cap lo hi mx).run P w = .ok (l.toNat, h.toNat, m.toNat) w := by
  cases hi with
  | none => cases hi1
  | some hv =>
    cases mx with
    | none => cases hm1
    | some mv =>
      obtain ⟨kh, rfl⟩ : ∃ k, hv = .int k h := by cases hv <;> simp_all [boundOf]
      obtain ⟨km, rfl⟩ : ∃ k, mv = .int k m := by cases mv <;> simp_all [boundOf]
      have q1 : (((h.toNat : Nat)) : Int) = h := by omega
      have q2 : (((m.toNat : Nat)) : Int) = m := by omega
      have q3 : 0 ≤ m := by omega
      have q4 : 0 ≤ h := by omega
      have q5 : max m 0 = m := by omega
      have q6 : max h 0 = h := by omega
      cases lo with
      | none =>
        simp only [boundOf, Option.some.injEq] at hl
        subst hl
        simp [Instr.sliceBounds, Instr.sliceBound, asIntOf, q1, q2, q3, q4, q5, q6, h2, h3]
      | some lv =>
        obtain ⟨kl, rfl⟩ : ∃ k, lv = .int k l := by cases lv <;> simp_all [boundOf]
        simp [Instr.sliceBounds, Instr.sliceBound, asIntOf, q1, q2, q3, q4, q5, q6, h0, h1, h2, h3]

theorem slice3_sound (hs : Sim w0 σe we fz β st σ a w) {T : Nat} {x mx : Operand} {lo hi : Option Operand} (hop : o.op = .slice T x lo hi (some mx)) (h : denOp P w0 (AC P w0) esc gk o.dst (.slice T x lo hi (some mx)) st σ K)
    (hn : ∀ x e σ' v w', K x e σ' → Out w0 σe we fz st a x e σ' v w' → next (a.put o.dst v) w') : o.wp P a w next Q := by
  simp only [denOp] at h
  split at h
  · rename_i e v l hh m hu hv hlo hhi hmx
    split at h
    · rename_i g n ht
      obtain ⟨A, len, cap, l', h', m', rfl, hl, hi1, hr, hm1, hm, h0, h1, h2, h3, hK⟩ := h
      obtain ⟨_, t2, _⟩ := tyOf_spec ht w
      have hmx' : (some mx).map a.eval = m := hs.oV hmx
      refine wp_value (w' := w) ?_ (hn _ _ _ _ _ hK (hs.same rfl))
      simp only [execOp, hop, hs.toV hv, hs.oV hlo, hs.oV hhi, hmx', Instr.sliceAt, Instr.slice, Sem.run_bind, run_underlying hu, Result.andThen_ok, bounds3_run (c := 0) hl hi1 hr hm1 hm h0 h1 h2 h3, Sem.run_pure, t2]
    · exact h.elim
  · exact h.elim

theorem slice_sound (hs : Sim w0 σe we fz β st σ a w) {T : Nat} {x : Operand} {lo hi : Option Operand} (hop : o.op = .slice T x lo hi none) (h : denOp P w0 (AC P w0) esc gk o.dst (.slice T x lo hi none) st σ K)
    (hn : ∀ x e σ' v w', K x e σ' → Out w0 σe we fz st a x e σ' v w' → next (a.put o.dst v) w') : o.wp P a w next Q := by
  simp only [denOp] at h
  split at h
  · rename_i v l hh hu hv hlo hhi
    obtain ⟨s, l', h', rfl, hl, hr, h0, h1, h2, hK⟩ := h
    refine wp_value (w' := w) ?_ (hn _ _ _ _ _ hK (hs.same rfl))
    simp only [execOp, hop, hs.toV hv, hs.oV hlo, hs.oV hhi, Option.map_none, Instr.sliceAt, Instr.slice, Sem.run_bind, run_underlying hu, Result.andThen_ok, bounds_run hl hr h0 h1 h2, Sem.run_pure, Option.isSome_none, Bool.false_eq_true, if_false]
  · rename_i e v l hh hu hv hlo hhi
    split at h
    · rename_i g n ht
      obtain ⟨A, len, cap, l', h', rfl, hl, hr, h0, h1, h2, hK⟩ := h
      obtain ⟨_, t2, _⟩ := tyOf_spec ht w
      refine wp_value (w' := w) ?_ (hn _ _ _ _ _ hK (hs.same rfl))
      simp only [execOp, hop, hs.toV hv, hs.oV hlo, hs.oV hhi, Option.map_none, Instr.sliceAt, Instr.slice, Sem.run_bind, run_underlying hu, Result.andThen_ok, bounds_run hl hr h0 h1 h2, Sem.run_pure, t2]
    · exact h.elim
  · exact h.elim

theorem indexAddr_sound (hs : Sim w0 σe we fz β st σ a w) {T : Nat} {x i : Operand} (hop : o.op = .indexAddr T x i) (h : denOp P w0 (AC P w0) esc gk o.dst (.indexAddr T x i) st σ K)
    (hn : ∀ x e σ' v w', K x e σ' → Out w0 σe we fz st a x e σ' v w' → next (a.put o.dst v) w') : o.wp P a w next Q := by
  simp only [denOp] at h
  split at h
  · rename_i v iv e hv hi hu
    split at h
    · rename_i g n ht
      obtain ⟨ad, len, cap, k, m, rfl, rfl, h0, h1, hK⟩ := h
      obtain ⟨_, t2, _⟩ := tyOf_spec ht w
      refine wp_value (w' := w) ?_ (hn _ _ _ _ _ hK (hs.same rfl))
      have hc : 0 ≤ m ∧ m < (len : Int) := ⟨h0, h1⟩
      simp only [execOp, hop, hs.toV hv, hs.toV hi, Instr.indexAt, asIntOf, Sem.run_bind, run_underlying hu, Result.andThen_ok, Sem.run_pure, hc, and_self, if_true, t2]
    · exact h.elim
  · rename_i v iv len e hv hi hu
    split at h
    · rename_i hb g n ht
      obtain ⟨ad, k, m, rfl, rfl, h0, h1, hK⟩ := h
      obtain ⟨_, t2, _⟩ := tyOf_spec ht w
      refine wp_value (w' := w) ?_ (hn _ _ _ _ _ hK (hs.same rfl))
      have hc : 0 ≤ m ∧ m < (len : Int) := ⟨h0, h1⟩
      simp only [execOp, hop, hs.toV hv, hs.toV hi, Instr.indexAt, asIntOf, Sem.run_bind, run_underlying hu, Result.andThen_ok, Sem.run_pure, Instr.sureAddr, hc, and_self, if_true, t2]
    · exact h.elim
  · exact h.elim

theorem index_sound (hs : Sim w0 σe we fz β st σ a w) {T : Nat} {x i : Operand} (hop : o.op = .index T x i) (h : denOp P w0 (AC P w0) esc gk o.dst (.index T x i) st σ K)
    (hn : ∀ x e σ' v w', K x e σ' → Out w0 σe we fz st a x e σ' v w' → next (a.put o.dst v) w') : o.wp P a w next Q := by
  simp only [denOp] at h
  split at h
  · rename_i v iv hv hi hu
    obtain ⟨s, k, m, rfl, rfl, h0, hlt, hK⟩ := h
    refine wp_value (w' := w) ?_ (hn _ _ _ _ _ hK (hs.same rfl))
    simp only [execOp, hop, hs.toV hv, hs.toV hi, Instr.index, asIntOf, Sem.run_bind, run_underlying hu, Result.andThen_ok, Sem.run_pure, h0, if_true]
    rw [getElem?_pos s m.toNat hlt]
    simp
  · exact h.elim

theorem callee_sound {f : FuncId} {vs : List Value} {K : Value → Vw → Prop} (hs : Sim w0 σe we fz β st σ a w) (h : AC P w0 f vs σ K) {next : Act → World → Prop} {Q : Exit → Act → World → Prop} {d : Option Tmp}
    (hn : ∀ r σ' w', K r σ' → Out w0 σe we fz st a (.val r) none σ' r w' → next (a.put d r) w') :
    Calls P f vs.toArray w fun
      | .returned v, w'' => next (a.put d v) w''
      | .panicked chain, w'' => Q (.panic chain) a w''
      | .outgrown, _ => LetsOut Q :=
  (h.2 w hs.sat).mono fun e w' ⟨v, σ', he, hR, ha⟩ => by subst he; exact hn v σ' w' hR (hs.rows ha v)

theorem run_callFunc {f : FuncId} {args : Array Value} (h : ∃ fn, P.funcs[f]? = some fn ∧ (fn.name == "runtime.NumGoroutine") = false ∧ fn.body.isNone = false) : (callFunc f args).run P w = .ok (.enter f args) w := by
  obtain ⟨fn, h1, h2, h3⟩ := h
  unfold callFunc
  simp only [program, Sem.run_bind, Sem.run, h1, Result.andThen_ok, h2, h3, Bool.false_eq_true, if_false]
  rfl

theorem len_sound (hs : Sim w0 σe we fz β st σ a w) {b : Builtin} {as : Array Operand} {ats : Array Nat} (hop : o.op = .call { callee := .builtin b, args := as, argTypes := ats }) (h : denB P w0 b ats.toList as.toList st σ K)
    (hn : ∀ x e σ' v w', K x e σ' → Out w0 σe we fz st a x e σ' v w' → next (a.put o.dst v) w') : o.wp P a w next Q := by
  unfold denB at h
  split at h
  · -- len
    rename_i x T ts hax hat
    have hx : as = #[x] := by rw [← Array.toArray_toList (xs := as), hax]
    obtain ⟨us, hts⟩ : ∃ us : Array Nat, ats = us ∧ us[0]? = some T := ⟨ats, rfl, by rw [← Array.getElem?_toList, hat]; rfl⟩
    have hT : ats[0]? = some T := by obtain ⟨rfl, h⟩ := hts; exact h
    have hv := hs.ev x
    split at h
    · rename_i v hev hu
      rw [hev] at hv
      obtain ⟨s, rfl, hK⟩ := h
      refine wp_value (w' := w) ?_ (hn _ _ _ _ _ hK (hs.same rfl))
      have hv' : a.eval x = .string s := hv
      subst hx
      simp [execOp, hop, resolve, invoke, builtin, Builtin.len_, hT, hv', run_underlying hu, goInt]
    · rename_i v e hev hu
      rw [hev] at hv
      obtain ⟨A, n, c, rfl, hK⟩ := h
      refine wp_value (w' := w) ?_ (hn _ _ _ _ _ hK (hs.same rfl))
      have hv' : a.eval x = .slice A n c := hv
      subst hx
      simp [execOp, hop, resolve, invoke, builtin, Builtin.len_, hT, hv', run_underlying hu, goInt]
    · rename_i k n e hev hu
      rw [hev] at hv
      obtain ⟨_, hv'⟩ := hv
      refine wp_value (w' := w) ?_ (hn _ _ _ _ _ h (hs.same rfl))
      subst hx
      simp [execOp, hop, resolve, invoke, builtin, Builtin.len_, hT, hv', run_underlying hu, goInt]
    · exact h.elim
  · -- append
    rename_i x y T T2 ts hax hat
    have hx : as = #[x, y] := by rw [← Array.toArray_toList (xs := as), hax]
    split at h
    · rename_i yv e e2 v he he2 hv
      have hu := elemOf_spec he
      split at h
      · rename_i g n z ht hz hTT
        obtain rfl := Nat.eq_of_beq_eq_true hTT
        obtain ⟨i, z', hi, hiz, hzc, hl, _⟩ := zeroOf_spec hz w
        have hsz := tyOf_size ht hi
        have hby : P.bytesOf e = i.bytes := by simp [Program.bytesOf, hi]
        have hzs : z'.cells.size = n + 1 := by
          have h1 : (cellsL z').length = n + 1 := by rw [hzc, hl, hsz]
          simpa [cellsL] using h1
        have hy := hs.ev y
        have hxv := hs.toV hv
        have hat' : ats = (T :: T :: ts).toArray := by rw [← hat]
        -- the call, once the source is known
        have go : ∀ (A : Option Addr) (m c : Nat) (new : List Value), a.eval y = .slice A m c → (∀ j u, new[j]? = some u → ∃ ad, A = some ad ∧ w.cell? (ad.add j) = some u) → (∀ c, c ∈ new → c.oneCell' = true) → new.length = m * (n + 1) →
            pAppend w0 e (n + 1) (P.bytesOf e) v m new σ (fun r σ => K (.val r) none σ) → o.wp P a w next Q := by
          intro A m c new hyv hcells h1 hlen hall
          rcases hall with ⟨b, off, k, cp, r, rfl, hr, hroom, _, _, hl2, hK⟩ | ⟨k, cells, hown, hlen', h63, hb, hK⟩ | ⟨b, k, r, rfl, hr, hrl, hmp, _, h63, hb, hK⟩
          · obtain ⟨hw0, cur, hcur, hpre, hcap, hfz⟩ := hs.sat.row b r hr
            have hle : r.cells.length ≤ cur.size := by have := hpre.length_le; simpa using this
            have hst := run_storeRow (P := P) b (off + k * (n + 1)) r.ety r.fz new 0 cur w hcur (by omega) hfz h1
            simp only [Nat.add_zero] at hst
            refine wp_value (w' := w.setRow b (setAt cur.toList (off + k * (n + 1)) new).toArray) (v := .slice (some ⟨b, off, none⟩) (k + m) cp) ?_ (hn _ _ _ _ _ hK (hs.rows (Aft.at hs.sat hr hl2 hcur) _))
            subst hx
            have hfc : ∀ ad : Addr, A = some ad → (Builtin.firstCells (n + 1) m (.slice (some ad) m c)).run P w = .ok new.toArray w := fun ad hA =>
              run_firstCells_some (P := P) w (n + 1) m ad m c new hlen fun j u hj => by
                obtain ⟨ad', hA', h⟩ := hcells j u hj
                rw [hA] at hA'; cases hA'; exact h
            have hadd : (⟨b, off, none⟩ : Addr).add (k * (n + 1)) = ⟨b, off + k * (n + 1), none⟩ := by unfold Addr.add; split <;> simp_all
            have hat2 : (Builtin.append_ ats o.type #[.slice (some ⟨b, off, none⟩) k cp, .slice A m c]).run P w = .ok (.slice (some ⟨b, off, none⟩) (k + m) cp) (w.setRow b (setAt cur.toList (off + k * (n + 1)) new).toArray) := by
              subst hat'
              cases A with
              | none =>
                have hnew : new = [] := by
                  cases new with
                  | nil => rfl
                  | cons u r => obtain ⟨_, h, _⟩ := hcells 0 u rfl; cases h
                subst hnew
                simp [Builtin.append_, run_underlying hu, sizeOf, typeInfo, hi, hsz, Builtin.lenOf, hroom, Builtin.firstCells, hadd, hst]
              | some ad => simp [Builtin.append_, run_underlying hu, sizeOf, typeInfo, hi, hsz, Builtin.lenOf, hroom, hfc ad rfl, hadd, hst]
            simp only [execOp, hop, resolve, invoke, builtin, Sem.run_bind, Sem.run_pure, Result.andThen_ok, List.map_toArray, List.map_cons, List.map_nil, hxv, hyv, hat2]
          rotate_left
          · rw [hby] at hb
            obtain ⟨c', w', hrun, hge, hle, haft⟩ := run_app_full (P := P) (ty := o.type) (cc := c) hs.sat hu hi hiz hsz hzs (by omega) hr hrl hmp hlen hcells h63 (by omega)
            have hf := fresh hs.sat
            refine wp_value (w' := w') (v := .slice (some ⟨w.heap.size, 0, none⟩) (k + m) c') ?_ (hn _ _ _ _ _ (hK _ c' hf.1 hf.2 hge hle) (hs.rows haft _))
            subst hx
            have hat2 : (Builtin.append_ ats o.type #[.slice (some ⟨b, 0, none⟩) k k, .slice A m c]).run P w = .ok (.slice (some ⟨w.heap.size, 0, none⟩) (k + m) c') w' := by
              rw [← hrun]
              subst hat'
              simp only [Builtin.append_]
              rfl
            simp only [execOp, hop, resolve, invoke, builtin, Sem.run_bind, Sem.run_pure, Result.andThen_ok, List.map_toArray, List.map_cons, List.map_nil, hxv, hyv, hat2]
          rw [hby] at hb
          obtain ⟨v', σ', w', hr, hg, haft⟩ := run_app (P := P) (ty := o.type) (c := c) hs.sat hu hi hiz hsz hzs (by omega) hown hlen hcells h1 h63 (by omega)
          refine wp_value (w' := w') (v := v') ?_ (hn _ _ _ _ _ (hK v' σ' hg) (hs.rows haft v'))
          subst hx
          have hat2 : (Builtin.append_ ats o.type #[v, .slice A m c]).run P w = .ok v' w' := by
            rw [← hr]
            subst hat'
            simp only [Builtin.append_]
            rfl
          simp only [execOp, hop, resolve, invoke, builtin, Sem.run_bind, Sem.run_pure, Result.andThen_ok, List.map_toArray, List.map_cons, List.map_nil, hxv, hyv, hat2]
        split at h
        · rename_i k m hev
          rw [hev] at hy
          obtain ⟨_, hyv⟩ := hy
          split at h
          · rename_i cs hcs
            split at h
            · rename_i hlen
              have hlen := Nat.eq_of_beq_eq_true hlen
              obtain ⟨h1, hp⟩ := h
              obtain ⟨T', cur, hcur, rfl⟩ := (hs.box k _ hcs).cells
              refine go _ m m cur.toList hyv (fun j u hj => ⟨_, rfl, ?_⟩) h1 hlen hp
              rw [show (⟨β k, 0, none⟩ : Addr).add j = ⟨β k, j, none⟩ by unfold Addr.add; split <;> simp_all]
              unfold World.cell?
              rw [hcur]
              simpa using hj
            · exact h.elim
          · exact h.elim
        · rename_i u hev
          rw [hev] at hy
          have hyv : a.eval y = u := hy
          obtain ⟨A, m, c, new, rfl, hlen, h1, hc, hp⟩ := h
          refine go A m c new hyv (fun j u hj => ?_) h1 hlen hp
          have hjl : j < new.length := (List.getElem?_eq_some_iff.1 hj).1
          obtain ⟨ad, hA, hg⟩ := hc j hjl
          refine ⟨ad, hA, ?_⟩
          rw [List.getElem?_eq_getElem hjl] at hj
          rw [← Option.some.inj hj]
          exact hs.sat.get hg
        · exact h.elim
      · exact h.elim
    · exact h.elim
  · rename_i _ x y hax
    have hx : as = #[x, y] := by rw [← Array.toArray_toList (xs := as), hax]
    split at h
    · rename_i u v hu hv
      obtain ⟨k, p, q, rfl, rfl, hK⟩ := h
      refine wp_value (w' := w) ?_ (hn _ _ _ _ _ hK (hs.same rfl))
      subst hx
      simp [execOp, hop, resolve, invoke, builtin, Builtin.min_, Builtin.min2, hs.toV hu, hs.toV hv]
    · exact h.elim
  · rename_i _ x y hax
    have hx : as = #[x, y] := by rw [← Array.toArray_toList (xs := as), hax]
    split at h
    · rename_i u v hu hv
      obtain ⟨k, p, q, rfl, rfl, hK⟩ := h
      refine wp_value (w' := w) ?_ (hn _ _ _ _ _ hK (hs.same rfl))
      subst hx
      simp [execOp, hop, resolve, invoke, builtin, Builtin.max_, Builtin.max2, hs.toV hu, hs.toV hv]
    · exact h.elim
  · rename_i x T ts hax hat
    have hx : as = #[x] := by rw [← Array.toArray_toList (xs := as), hax]
    have hat' : ats = (T :: ts).toArray := by rw [← hat]
    split at h
    · rename_i e v he hv
      have hu := elemOf_spec he
      split at h
      · rename_i z g n hz ht
        obtain ⟨hzl, hz1, A, len, cap, rfl, hK⟩ := h
        obtain ⟨i, z', hi, hiz, hzc, hl, hzr⟩ := zeroOf_spec hz w
        have hxv := hs.toV hv
        have hty : ats[0]? = some T := by rw [hat']; simp
        rcases hK with ⟨h0, hK⟩ | ⟨b, off, r, rfl, hpos, hr, hl2, hK⟩
        · refine wp_value (w' := w) (v := .tuple ⟨[]⟩) ?_ (hn _ _ _ _ _ hK (hs.same rfl))
          subst hx
          have hc : (Builtin.clear_ ats o.type #[.slice A len cap]).run P w = .ok (.tuple #[]) w := by
            rcases h0 with rfl | rfl
            · simp [Builtin.clear_, hty, run_underlying hu]
            · cases A <;> simp [Builtin.clear_, hty, run_underlying hu]
          simp only [execOp, hop, resolve, invoke, builtin, Sem.run_bind, Sem.run_pure, Result.andThen_ok, List.map_toArray, List.map_cons, List.map_nil, hxv, hc]
        · obtain ⟨hw0, cur, hcur, hpre, hcap, hfz⟩ := hs.sat.row b r hr
          have hle : r.cells.length ≤ cur.size := by have := hpre.length_le; simpa using this
          have hzlen : (List.replicate len z).flatten.length = len * (n + 1) := by rw [List.length_flatten]; simp [hzl]
          have hst := run_storeRow (P := P) b off r.ety r.fz (List.replicate len z).flatten 0 cur w hcur (by rw [hzlen]; omega) hfz (fun c hc => by
            obtain ⟨l, h1, h2⟩ := List.mem_flatten.1 hc
            rw [List.eq_of_mem_replicate h1] at h2
            exact hz1 c h2)
          simp only [Nat.add_zero] at hst
          refine wp_value (w' := w.setRow b (setAt cur.toList off (List.replicate len z).flatten).toArray) (v := .tuple ⟨[]⟩) ?_ (hn _ _ _ _ _ hK (hs.rows (Aft.at hs.sat hr (by rw [hzlen]; exact hl2) hcur) _))
          subst hx
          have hzz : (Builtin.zeroCells z'.cells len).toList = (List.replicate len z).flatten := by
            have h1 := made_repl z' (n + 1) len (by rw [hzc]; exact hzl) (by omega)
            have h2 : Builtin.zeroCells z'.cells len = (replL (cellsL z') len).toArray := by
              unfold Builtin.zeroCells
              have : z'.cells.size = n + 1 := by
                have : (cellsL z').length = n + 1 := by rw [hzc]; exact hzl
                simpa [cellsL] using this
              rw [this] at h1 ⊢
              exact h1
            rw [h2, hzc, replL_flat]
          have hc : (Builtin.clear_ ats o.type #[.slice (some ⟨b, off, none⟩) len cap]).run P w = .ok (.tuple #[]) (w.setRow b (setAt cur.toList off (List.replicate len z).flatten).toArray) := by
            obtain ⟨len, rfl⟩ : ∃ k, len = k + 1 := ⟨len - 1, by omega⟩
            simp [Builtin.clear_, hty, run_underlying hu, hzr, hzz, hst]
          simp only [execOp, hop, resolve, invoke, builtin, Sem.run_bind, Sem.run_pure, Result.andThen_ok, List.map_toArray, List.map_cons, List.map_nil, hxv, hc]
      · exact h.elim
    · exact h.elim
  · exact h.elim
end
end Go.Av

/- The abstract layer, part 12: all operations; a region in the order of its text. -/
set_option linter.unusedVariables false
set_option linter.unusedSimpArgs false
namespace Go.Av
open Go Go.RowKit

section
variable {P : Program} {w0 : World} {σe : Vw} {we : World} {fz : Nat} {β : Nat → Nat} {st : St} {σ : Vw} {a : Act} {w : World} {esc : Nat → Bool} {gk : List (Nat × Bool)} {next : Act → World → Prop} {Q : Exit → Act → World → Prop} {o : Oper}

/-- What has been parted on is so. -/
def GkOk (gk : List (Nat × Bool)) (st : St) : Prop := ∀ t b, gkFind gk t = some b → toV (st.tmps.getD t .unk) = some (.bool b)

theorem known_val {c : Operand} {b : Bool} (hg : GkOk gk st) (h : knownB gk st c = some b) : toV (ev st c) = some (.bool b) := by
  unfold knownB at h
  split at h
  · rename_i b' hev
    cases h
    rw [hev]; rfl
  · rename_i v hev
    split at h
    · rename_i t
      exact hg t b h
    · cases h
  · cases h

theorem denOp_sound (hg : GkOk gk st) {K : TV → Eff → Vw → Prop} (hs : Sim w0 σe we fz β st σ a w) (h : denOp P w0 (AC P w0) esc gk o.dst o.op st σ K)
    (hn : ∀ x e σ' v w', K x e σ' → Out w0 σe we fz st a x e σ' v w' → next (a.put o.dst v) w') : o.wp P a w next Q := by
  cases hop : o.op with
  | move x =>
    rw [hop] at h
    exact wp_value (w' := w) (by simp [execOp, hop]) (hn _ _ _ _ _ h (hs.same (hs.ev x)))
  | assign x =>
    rw [hop] at h
    exact wp_value (w' := w) (by simp [execOp, hop]) (hn _ _ _ _ _ h (hs.same (hs.ev x)))
  | pick c x y =>
    rw [hop] at h
    simp only [denOp] at h
    split at h
    · rename_i hev
      have hc' : a.eval c = .bool true := hs.toV (known_val hg hev)
      exact wp_value (w' := w) (by simp [execOp, hop, hc', asBool]) (hn _ _ _ _ _ h (hs.same (hs.ev x)))
    · rename_i hev
      have hc' : a.eval c = .bool false := hs.toV (known_val hg hev)
      exact wp_value (w' := w) (by simp [execOp, hop, hc', asBool]) (hn _ _ _ _ _ h (hs.same (hs.ev y)))
    · have hc := hs.ev c
      split at h
      · rename_i v hev
        rw [hev] at hc
        obtain ⟨b, rfl, h1, h2⟩ := h
        have hc' : a.eval c = .bool b := hc
        cases b with
        | true => exact wp_value (w' := w) (by simp [execOp, hop, hc', asBool]) (hn _ _ _ _ _ (h1 rfl) (hs.same (hs.ev x)))
        | false => exact wp_value (w' := w) (by simp [execOp, hop, hc', asBool]) (hn _ _ _ _ _ (h2 rfl) (hs.same (hs.ev y)))
      · exact h.elim
  | alloc T => rw [hop] at h; exact alloc_sound hs hop h hn
  | box T x => rw [hop] at h; exact box_sound hs hop h hn
  | build T ps => rw [hop] at h; exact build_sound hs hop h hn
  | buildSlice T n ps => rw [hop] at h; exact buildSlice_sound hs hop h hn
  | load T x => rw [hop] at h; exact load_sound hs hop h hn
  | store T x y => rw [hop] at h; exact store_sound hs hop h hn
  | nilCheck x =>
    rw [hop] at h
    simp only [denOp] at h
    have hx := hs.ev x
    split at h
    · rename_i k j hev
      rw [hev] at hx
      exact wp_value (w' := w) (by simp [execOp, hop, hx.2]) (hn _ _ _ _ _ h (hs.same hx))
    · rename_i v hev
      rw [hev] at hx
      obtain ⟨ad, rfl, hK⟩ := h
      have hx' : a.eval x = .pointer (some ad) := hx
      exact wp_value (w' := w) (by simp [execOp, hop, hx']) (hn _ _ _ _ _ hK (hs.same rfl))
    · exact h.elim
  | binOp op T x y yT =>
    rw [hop] at h
    simp only [denOp] at h
    split at h
    · rename_i u v hu hv
      obtain ⟨r, hr, hK⟩ := h
      have hb := bin_sound (w := w) (x := x) (y := y) hr
      refine wp_value (w' := w) (v := r) ?_ (hn _ _ _ _ _ hK (hs.same rfl))
      simp only [execOp, hop, hs.toV hu, hs.toV hv]
      rw [Sem.run_bind, hb]
      rfl
    · exact h.elim
  | unOp op T x =>
    rw [hop] at h
    simp only [denOp] at h
    split at h
    · rename_i u hu
      obtain ⟨r, hr, hK⟩ := h
      refine wp_value (w' := w) (v := r) ?_ (hn _ _ _ _ _ hK (hs.same rfl))
      simp only [execOp, hop, hs.toV hu]
      unfold aun at hr
      split at hr <;> first | (cases hr; simp [Op.unary, Op.intArith]) | cases hr
    · exact h.elim
  | convert s d x => rw [hop] at h; exact convert_sound hs hop h hn
  | makeSlice T l c => rw [hop] at h; exact makeSlice_sound hs hop h hn
  | slice T x lo hi mx =>
    rw [hop] at h
    cases mx with
    | none => exact slice_sound hs hop h hn
    | some m => exact slice3_sound hs hop h hn
  | field T x f =>
    rw [hop] at h
    simp only [denOp] at h
    split at h
    · rename_i fs m v hu ht hv
      split at h
      · rename_i fd hf
        split at h
        · rename_i g n hft
          split at h
          · rename_i hb
            obtain ⟨⟨cs, rfl, hl, h1⟩, hK⟩ := h
            have hle := Nat.le_of_ble_eq_true hb
            obtain ⟨t1, t2, _, t4⟩ := tyOf_spec hft w
            refine wp_value (w' := w) ?_ (hn _ _ _ _ _ hK (hs.same rfl))
            have hcell : ∀ k, cellOf (.agg ⟨cs⟩) k = cs.getD k undef := fun k => rfl
            have hex : ∀ k i, i + k ≤ cs.length → expl (cellOf (.agg ⟨cs⟩)) i k = (cs.drop i).take k := by
              intro k
              induction k with
              | zero => intro i _; simp [expl]
              | succ k ih =>
                intro i hi
                simp only [expl]
                rw [ih (i + 1) (by omega), hcell, List.drop_eq_getElem_cons (l := cs) (i := i) (by omega), List.take_succ_cons]
                simp [List.getD_eq_getElem?_getD, List.getElem?_eq_getElem (show i < cs.length by omega)]
            cases g with
            | true =>
              simp only [execOp, hop, hs.toV hv, Instr.field, Sem.run_bind, run_underlying hu, Result.andThen_ok, hf, asAgg, Sem.run_pure, part, t1, t2, if_true]
              rw [hex n fd.offset (by omega)]
              simp [mkVal, List.take_drop]
            | false =>
              obtain rfl := t4 rfl
              have hlt : fd.offset < cs.length := by omega
              simp only [execOp, hop, hs.toV hv, Instr.field, Sem.run_bind, run_underlying hu, Result.andThen_ok, hf, asAgg, Sem.run_pure, part, t1, t2, Bool.false_eq_true, if_false]
              simp [mkVal, expl, cellOf, cellsL, Value.cells, List.getD_eq_getElem?_getD, List.getElem?_eq_getElem hlt]
          · exact h.elim
        · exact h.elim
      · exact h.elim
    · exact h.elim
  | makeFunc fn first captured =>
    rw [hop] at h
    cases fn with
    | func f =>
      simp only [denOp] at h
      split at h
      · rename_i fs cs hfs hcs
        refine wp_value (w' := w) ?_ (hn _ _ _ _ _ h (hs.same rfl))
        have e1 : first.map a.eval = ⟨fs⟩ := by apply Array.toList_inj.1; rw [Array.toList_map]; exact hs.toVs hfs
        have e2 : captured.map a.eval = ⟨cs⟩ := by apply Array.toList_inj.1; rw [Array.toList_map]; exact hs.toVs hcs
        simp only [execOp, hop, Instr.makeFunc, e1, e2, Sem.run_bind, Sem.run_pure, Result.andThen_ok]
      · exact h.elim
    | _ => exact False.elim h
  | fieldAddr T x f =>
    rw [hop] at h
    simp only [denOp] at h
    have hx := hs.ev x
    split at h
    · rename_i oo k j ho hev
      rw [hev] at hx
      have hr := offOf_run (P := P) ho w ⟨β k, j, none⟩
      refine wp_value (w' := w) (v := .pointer (some ⟨β k, j + oo, none⟩)) ?_ (hn _ _ _ _ _ h (hs.same ⟨hx.1, rfl⟩))
      simp only [execOp, hop, hx.2, Sem.run_bind, hr, Result.andThen_ok, Sem.run_pure]
      congr 4
      unfold Addr.add
      split <;> simp_all
    · rename_i oo v ho hev
      rw [hev] at hx
      obtain ⟨ad, rfl, hK⟩ := h
      have hx' : a.eval x = .pointer (some ad) := hx
      have hr := offOf_run (P := P) ho w ad
      refine wp_value (w' := w) ?_ (hn _ _ _ _ _ hK (hs.same rfl))
      simp only [execOp, hop, hx', Sem.run_bind, hr, Result.andThen_ok, Sem.run_pure]
    · exact h.elim
  | indexAddr T x i => rw [hop] at h; exact indexAddr_sound hs hop h hn
  | index T x i => rw [hop] at h; exact index_sound hs hop h hn
  | extract x i =>
    rw [hop] at h
    simp only [denOp] at h
    split at h
    · rename_i v hv
      obtain ⟨vs, rfl, hi, hK⟩ := h
      refine wp_value (w' := w) (v := vs[i]) ?_ (hn _ _ _ _ _ hK (hs.same rfl))
      simp [execOp, hop, hs.toV hv, Instr.extract, hi]
    · exact h.elim
  | call c =>
    obtain ⟨cal, as, ats⟩ := c
    rw [hop] at h
    cases cal with
    | value x =>
      cases x with
      | func f =>
        simp only [denOp] at h
        split at h
        · rename_i vs hvs
          have hargs := hs.toVs hvs
          have hc := callee_sound (Q := Q) (d := o.dst) hs h (fun r σ' w' hK ho => hn _ _ _ _ _ hK ho)
          have he : (execOp a.eval o).run P w = .ok (.enter f vs.toArray) w := by
            have hm : as.map a.eval = vs.toArray := by
              apply Array.toList_inj.1
              rw [Array.toList_map]
              exact hargs
            have hcf := run_callFunc (P := P) (w := w) (args := vs.toArray) h.1
            simp only [execOp, hop, resolve, Act.eval, Deferred.ofValue, invoke, Sem.run_bind, Sem.run_pure, Result.andThen_ok, hm, Array.empty_append, Array.append_empty, hcf]
          unfold Oper.wp
          rw [he]
          exact hc
        · exact h.elim
      | tmp t =>
        simp only [denOp] at h
        split at h
        · rename_i v vs hv hvs
          obtain ⟨f, fs, cs, rfl, h⟩ := h
          have hargs := hs.toVs hvs
          have hc := callee_sound (Q := Q) (d := o.dst) hs h (fun r σ' w' hK ho => hn _ _ _ _ _ hK ho)
          have he : (execOp a.eval o).run P w = .ok (.enter f (fs ++ vs ++ cs).toArray) w := by
            have hm : as.map a.eval = vs.toArray := by
              apply Array.toList_inj.1
              rw [Array.toList_map]
              exact hargs
            have hcf := run_callFunc (P := P) (w := w) (args := (fs ++ vs ++ cs).toArray) h.1
            have hev : a.eval (.tmp t) = .func (.func f) ⟨fs⟩ ⟨cs⟩ := hs.toV hv
            have happ : (⟨fs⟩ : Array Value) ++ vs.toArray ++ (⟨cs⟩ : Array Value) = (fs ++ vs ++ cs).toArray := by simp
            simp only [execOp, hop, resolve, hev, Deferred.ofValue, invoke, Sem.run_bind, Sem.run_pure, Result.andThen_ok, hm, happ, hcf]
          unfold Oper.wp
          rw [he]
          exact hc
        · exact h.elim
      | const v => exact False.elim h
      | global g => exact False.elim h
    | invoke r m => exact False.elim h
    | builtin b => exact len_sound hs hop h hn
  | _ => rw [hop] at h; exact False.elim h

/-- Behind an operation: the frame. -/
theorem Out.sim {x : TV} {e : Eff} {σ' : Vw} {v : Value} {w' : World} (h : Out w0 σe we fz st a x e σ' v w') (dst : Option Tmp) : ∃ β', Sim w0 σe we fz β' (putT (st.eff e) dst x) σ' (a.put dst v) w' := by
  obtain ⟨β', h1, h2⟩ := h
  exact ⟨β', h1.put dst h2⟩

theorem runG_sound (hg : GkOk gk st) {K : St → Vw → Prop} {go : Bool} (hs : Sim w0 σe we fz β st σ a w) (h : runG P w0 (AC P w0) esc gk o go st σ K) {ops : Array Oper} (hgo : Region.wanted o (yielded ops a.tmps) = go)
    (hn : ∀ β' e x σ' a' w', K (putT (st.eff e) o.dst x) σ' → Sim w0 σe we fz β' (putT (st.eff e) o.dst x) σ' a' w' → next a' w') :
    if Region.wanted o (yielded ops a.tmps) then o.wp P a w next Q ∨ (o.asks P a w ∧ LetsOut Q) else next (a.put o.dst undef) w := by
  rw [hgo]
  cases go with
  | true =>
    simp only [if_true]
    have h' : denOp P w0 (AC P w0) esc gk o.dst o.op st σ (fun x e σ => K (putT (st.eff e) o.dst x) σ) := by simpa only [runG, putK_eq, St.eff] using h
    refine .inl (denOp_sound hg hs h' fun x e σ' v w' hK ho => ?_)
    obtain ⟨β', hs'⟩ := ho.sim o.dst
    exact hn _ _ _ _ _ _ hK hs'
  | false =>
    simp only [Bool.false_eq_true, if_false]
    have h' : K (putT st o.dst .und) σ := by simpa only [runG, putK_eq, St.eff] using h
    exact hn _ none _ _ _ _ h' (hs.put o.dst (x := .und) rfl)

theorem agree_eq (b want : Bool) : agree b want = (some b == some want) := by cases b <;> cases want <;> rfl

theorem yield_of {ops : Array Oper} {g : Nat} {t : Tmp} {b : Bool} (ht : guardSlot ops.toList g = some t) (hb : a.tmps.getD t undef = .bool b) : yielded ops a.tmps g = some b := by
  unfold guardSlot at ht
  have ht' : (ops[g]?).bind (·.dst) = some t := by rw [← ht, Array.getElem?_toList]
  unfold yielded
  rw [ht']
  simp only [Option.bind_some]
  have : a.tmps[t]? = some (.bool b) := by
    rw [Array.getD_eq_getD_getElem?] at hb
    cases hc : a.tmps[t]? with
    | none => rw [hc] at hb; simp [undef] at hb
    | some v => rw [hc] at hb; simp at hb; rw [hb]
  rw [this]

theorem yield_none {ops : Array Oper} {g : Nat} {t : Tmp} (ht : guardSlot ops.toList g = some t) (hb : a.tmps.getD t undef = undef) : yielded ops a.tmps g = none := by
  unfold guardSlot at ht
  have ht' : (ops[g]?).bind (·.dst) = some t := by rw [← ht, Array.getElem?_toList]
  unfold yielded
  rw [ht']
  simp only [Option.bind_some]
  rw [Array.getD_eq_getD_getElem?] at hb
  cases hc : a.tmps[t]? with
  | none => rfl
  | some v => rw [hc] at hb; simp at hb; rw [hb]; rfl

theorem GkOk.put {d : Option Tmp} {x : TV} {e : Eff} (hg : GkOk gk st) (hf : freeSlot gk d = true) : GkOk gk (putT (st.eff e) d x) := by
  intro t b h
  have := hg t b h
  have ht : (st.eff e).tmps = st.tmps := by cases e <;> rfl
  cases d with
  | none => simpa [putT, ht] using this
  | some d =>
    have hne : d ≠ t := fun e' => by
      subst e'
      simp only [freeSlot, h] at hf
      cases hf
    simp only [putT, ht]
    rw [List.getD_eq_getElem?_getD, List.getElem?_set_ne hne, ← List.getD_eq_getElem?_getD]
    exact this

theorem GkOk.cons {t : Nat} {b : Bool} (hg : GkOk gk st) (h : toV (st.tmps.getD t .unk) = some (.bool b)) : GkOk ((t, b) :: gk) st := by
  intro i c hi
  simp only [gkFind] at hi
  cases hb : Nat.beq t i with
  | true =>
    rw [hb] at hi
    simp only [cond_true, Option.some.injEq] at hi
    obtain rfl := Nat.eq_of_beq_eq_true hb
    rw [← hi]; exact h
  | false =>
    rw [hb] at hi
    exact hg i c hi

theorem freeSlot_cons {t : Nat} {b : Bool} {d : Option Tmp} (h1 : freeSlot gk d = true) (h2 : freeSlot [(t, true)] d = true) : freeSlot ((t, b) :: gk) d = true := by
  cases d with
  | none => rfl
  | some d =>
    simp only [freeSlot, gkFind] at *
    cases hb : Nat.beq t d with
    | true => rw [hb] at h2; cases h2
    | false => exact h1

theorem denG_sound (hg : GkOk gk st) {K : List (Nat × Bool) → St → Vw → Prop} {ops : Array Oper} (hs : Sim w0 σe we fz β st σ a w) (h : denG P w0 (AC P w0) ops.toList esc gk o st σ K)
    (hn : ∀ gk' β' st' σ' a' w', K gk' st' σ' → GkOk gk' st' → Sim w0 σe we fz β' st' σ' a' w' → next a' w') :
    if Region.wanted o (yielded ops a.tmps) then o.wp P a w next Q ∨ (o.asks P a w ∧ LetsOut Q) else next (a.put o.dst undef) w := by
  unfold denG at h
  split at h
  · exact h.elim
  · rename_i hfr
    split at h
    · rename_i hgd
      exact runG_sound hg hs h (by simp [Region.wanted, hgd]) (fun β' e x σ' a' w' hK hs' => hn gk β' _ σ' a' w' hK (hg.put hfr) hs')
    · rename_i g want hgd
      split at h
      · exact h.elim
      · rename_i t ht
        split at h
        · exact h.elim
        · rename_i hft
          split at h
          · rename_i b hb
            have hx' : a.tmps.getD t undef = .bool b := hs.toV (x := .tmp t) (known_val (c := .tmp t) hg hb)
            refine runG_sound hg hs h ?_ (fun β' e x σ' a' w' hK hs' => hn gk β' _ σ' a' w' hK (hg.put hfr) hs')
            rw [agree_eq]
            simp only [Region.wanted, hgd, yield_of ht hx']
          · split at h
            · rename_i v hb
              obtain ⟨b, rfl, h1, h2⟩ := h
              have hv : toV (st.tmps.getD t .unk) = some (.bool b) := by rw [hb]; rfl
              have hx' : a.tmps.getD t undef = .bool b := hs.toV (x := .tmp t) hv
              cases b with
              | true =>
                have hg' := hg.cons hv
                refine runG_sound hg' hs (h1 rfl) ?_ (fun β' e x σ' a' w' hK hs' => hn _ β' _ σ' a' w' hK (hg'.put (freeSlot_cons hfr hft)) hs')
                rw [agree_eq]
                simp only [Region.wanted, hgd, yield_of ht hx']
              | false =>
                have hg' := hg.cons hv
                refine runG_sound hg' hs (h2 rfl) ?_ (fun β' e x σ' a' w' hK hs' => hn _ β' _ σ' a' w' hK (hg'.put (freeSlot_cons hfr hft)) hs')
                rw [agree_eq]
                simp only [Region.wanted, hgd, yield_of ht hx']
            · rename_i hb
              have hx' : a.tmps.getD t undef = undef := by have := hs.tm t; rw [hb] at this; exact this
              refine runG_sound hg hs h ?_ (fun β' e x σ' a' w' hK hs' => hn gk β' _ σ' a' w' hK (hg.put hfr) hs')
              simp only [Region.wanted, hgd, yield_none ht hx']
              cases want <;> rfl
            · exact h.elim

theorem denOps_sound {ops : Array Oper} : ∀ (l : List Nat) (os : List Oper) (gk : List (Nat × Bool)) (β : Nat → Nat) (st : St) (σ : Vw) (a : Act) (w : World) (K : St → Vw → Prop), l.map (ops[·]?) = os.map some → GkOk gk st → Sim w0 σe we fz β st σ a w → denOps P w0 (AC P w0) ops.toList esc os gk st σ K →
    (∀ β' st' σ' a' w', K st' σ' → Sim w0 σe we fz β' st' σ' a' w' → Q .normal a' w') → wpOps P ops Q l a w
  | [], os, gk, β, st, σ, a, w, K, hl, hg, hs, h, hn => by
    cases os with
    | nil => exact hn _ _ _ _ _ h hs
    | cons o r => simp at hl
  | i :: l, os, gk, β, st, σ, a, w, K, hl, hg, hs, h, hn => by
    cases os with
    | nil => simp at hl
    | cons o r =>
      simp only [List.map_cons, List.cons.injEq] at hl
      obtain ⟨ho, hl⟩ := hl
      simp only [wpOps, ho]
      exact denG_sound (next := wpOps P ops Q l) hg hs h (fun gk' β' st' σ' a' w' hK hg' hs' => denOps_sound l r gk' β' st' σ' a' w' K hl hg' hs' hK hn)
end
end Go.Av

/- The abstract layer, draws, part 1: what an operation hangs on. -/
set_option linter.unusedVariables false
set_option linter.unusedSimpArgs false
namespace Go.Av
open Go Go.RowKit

/-- The view has grown: rows have new cells behind the old ones. -/
def Ext (σ σ' : Vw) : Prop := ∀ b r, σ b = some r → ∃ r', σ' b = some r' ∧ r.cells <+: r'.cells

theorem Ext.refl (σ : Vw) : Ext σ σ := fun b r h => ⟨r, h, List.prefix_refl _⟩

theorem get_ext {w0 : World} {σ σ' : Vw} (h : Ext σ σ') {a : Addr} {v : Value} (hg : get w0 σ a = some v) : get w0 σ' a = some v := by
  unfold Av.get at *
  split
  · rename_i hl; rw [if_pos hl] at hg; exact hg
  · rename_i hl
    rw [if_neg hl] at hg
    split
    · rename_i hs
      rw [if_pos hs] at hg
      cases hr : σ a.block with
      | none => rw [hr] at hg; cases hg
      | some r =>
        obtain ⟨r', hr', hp⟩ := h _ _ hr
        rw [hr] at hg
        rw [hr']
        simp only [Option.bind_some] at *
        obtain ⟨t, ht⟩ := hp
        have hlt := (List.getElem?_eq_some_iff.1 hg).1
        rw [← ht, List.getElem?_append_left hlt]
        exact hg
    · rename_i hs; rw [if_neg hs] at hg; cases hg

section
variable (P : Program)
def isLoc (esc : Nat → Bool) (dst : Option Tmp) : Bool := match dst with | some k => !esc k | none => false
def isFree (esc : Nat → Bool) (dst : Option Tmp) (op : Op) : Bool :=
  match op with
  | .move _ => true
  | .assign _ => true
  | .pick _ _ _ => true
  | .build _ _ => true
  | .load _ _ => true
  | .nilCheck _ => true
  | .binOp _ _ _ _ _ => true
  | .unOp _ _ _ => true
  | .slice _ _ _ _ _ => true
  | .fieldAddr _ _ _ => true
  | .indexAddr _ _ _ => true
  | .index _ _ _ => true
  | .extract _ _ => true
  | .field _ _ _ => true
  | .makeFunc _ _ _ => true
  | .alloc _ => isLoc esc dst
  | .box _ _ => isLoc esc dst
  | .buildSlice _ _ _ => isLoc esc dst
  | .convert _ d _ => match P.underlying d with | some (.slice _) => false | _ => true
  | .call c => match c.callee with
    | .builtin .len => true
    | .builtin .min => true
    | .builtin .max => true
    | _ => false
  | _ => false

def isHard (op : Op) : Bool := match op with | .store _ _ _ => true | _ => false
end

/-- Two frames that an operation can't tell apart. -/
structure Agree (st st' : St) (dst : Option Tmp) (xs : List Operand) : Prop where
  ev : ∀ y, y ∈ xs → Av.ev st y = Av.ev st' y
  lp : ∀ y, y ∈ xs → ∀ k j, Av.ev st y = .lp k j → st.bx k = st'.bx k
  ls : ∀ y, y ∈ xs → ∀ k j, Av.ev st y = .ls k j → st.bx k = st'.bx k
  dst : ∀ k, dst = some k → st.bx k = none → st'.bx k = none

section
variable {P : Program} {w0 : World} {st st' : St} {σ : Vw} {esc : Nat → Bool} {dst : Option Tmp} {K : TV → Eff → Vw → Prop} {call : FuncId → List Value → Vw → (Value → Vw → Prop) → Prop}

theorem toVs_congr : ∀ {xs : List Operand}, (∀ y, y ∈ xs → ev st y = ev st' y) → toVs st xs = toVs st' xs
  | [], _ => rfl
  | x :: r, h => by
    simp only [toVs]
    rw [← h x List.mem_cons_self, toVs_congr (fun y hy => h y (List.mem_cons_of_mem _ hy))]

theorem fill_congr {place : Nat → Option (Nat × (Bool × Nat))} : ∀ {ps : List (Nat × Operand)} {cs : List Value} {A : List Value → Prop}, (∀ y, y ∈ ps.map (·.2) → ev st y = ev st' y) → fillParts st place ps cs A → fillParts st' place ps cs A
  | [], _, _, _, h => h
  | (i, x) :: r, cs, A, he, h => by
    simp only [fillParts] at *
    rw [← he x (by simp)]
    split at h
    · rename_i hp hv
      split at h
      · exact ⟨h.1, fill_congr (fun y hy => he y (by simp at hy ⊢; exact .inr hy)) h.2⟩
      · exact h.elim
    · exact h.elim

theorem oV_congr {x : Option Operand} (h : ∀ y, x = some y → ev st y = ev st' y) : oV st x = oV st' x := by
  cases x with
  | none => rfl
  | some x => simp only [oV]; rw [← h x rfl]

theorem mk_congr {ety : Nat} {cs : List Value} {loc : Nat → TV} {far : Nat → Value} (hd : ∀ k, dst = some k → st.bx k = none → st'.bx k = none) (h : mkBox w0 esc dst ety st cs σ loc far K) : mkBox w0 esc dst ety st' cs σ loc far K := by
  unfold mkBox at *
  split at h
  · rename_i k
    split at h
    · exact h
    · split at h
      · rename_i hk
        rw [hd k rfl hk]
        exact h
      · exact h.elim
  · exact h.elim

theorem denOp_congr {op : Op} (h : Agree st st' dst op.operands.toList) (hd : denOp P w0 call esc [] dst op st σ K) : denOp P w0 call esc [] dst op st' σ K := by
  cases op with
  | move x => simp only [denOp] at *; rw [← h.ev x (by simp [Op.operands])]; exact hd
  | assign x => simp only [denOp] at *; rw [← h.ev x (by simp [Op.operands])]; exact hd
  | pick c x y =>
    simp only [denOp, knownB] at *
    rw [← h.ev c (by simp [Op.operands]), ← h.ev x (by simp [Op.operands]), ← h.ev y (by simp [Op.operands])]
    exact hd
  | alloc T =>
    simp only [denOp] at *
    split at hd
    · exact mk_congr h.dst hd
    · exact hd.elim
  | box T x =>
    simp only [denOp] at *
    rw [← h.ev x (by simp [Op.operands])]
    split at hd
    · exact ⟨hd.1, mk_congr h.dst hd.2⟩
    · exact hd.elim
  | build T ps =>
    simp only [denOp] at *
    split at hd
    · split at hd
      · exact fill_congr (fun y hy => h.ev y (by simpa [Op.operands] using hy)) hd
      · exact hd.elim
    · split at hd
      · exact fill_congr (fun y hy => h.ev y (by simpa [Op.operands] using hy)) hd
      · exact hd.elim
    · exact hd.elim
  | buildSlice T n ps =>
    simp only [denOp] at *
    split at hd
    · split at hd
      · split at hd
        · have := fill_congr (st' := st') (fun y hy => h.ev y (by simpa [Op.operands] using hy)) hd
          have mono : ∀ (ps : List (Nat × Operand)) (place : Nat → Option (Nat × (Bool × Nat))) (cs : List Value) (A B : List Value → Prop), (∀ c, A c → B c) → fillParts st' place ps cs A → fillParts st' place ps cs B := by
            intro ps
            induction ps with
            | nil => intro place cs A B hab h; exact hab _ h
            | cons p r ih =>
              intro place cs A B hab h
              obtain ⟨i, x⟩ := p
              simp only [fillParts] at *
              split at h
              · split at h
                · exact ⟨h.1, ih _ _ _ _ hab h.2⟩
                · exact h.elim
              · exact h.elim
          exact mono _ _ _ _ _ (fun c hc => mk_congr h.dst hc) this
        · exact hd.elim
      · exact hd.elim
    · exact hd.elim
  | load T x =>
    have hx := h.ev x (by simp [Op.operands])
    simp only [denOp] at *
    rw [← hx]
    split at hd
    · split at hd
      · rename_i k j hk
        rw [← h.lp x (by simp [Op.operands]) k j hk]
        exact hd
      · exact hd
      · exact hd.elim
    · exact hd.elim
  | store T x y =>
    have hx := h.ev x (by simp [Op.operands])
    simp only [denOp] at *
    rw [← hx, ← h.ev y (by simp [Op.operands])]
    split at hd
    · refine ⟨hd.1, ?_⟩
      have hd := hd.2
      split at hd
      · rename_i k j hk
        rw [← h.lp x (by simp [Op.operands]) k j hk]
        exact hd
      · exact hd
      · exact hd.elim
    · exact hd.elim
  | nilCheck x => simp only [denOp] at *; rw [← h.ev x (by simp [Op.operands])]; exact hd
  | binOp op T x y yT => simp only [denOp] at *; rw [← h.ev x (by simp [Op.operands]), ← h.ev y (by simp [Op.operands])]; exact hd
  | unOp op T x => simp only [denOp] at *; rw [← h.ev x (by simp [Op.operands])]; exact hd
  | convert s d x => simp only [denOp] at *; rw [← h.ev x (by simp [Op.operands])]; exact hd
  | makeSlice T l c => simp only [denOp] at *; rw [← h.ev l (by simp [Op.operands]), ← h.ev c (by simp [Op.operands])]; exact hd
  | slice T x lo hi mx =>
    cases mx with
    | some m =>
      simp only [denOp] at *
      rw [← h.ev x (by simp [Op.operands]), ← oV_congr (x := lo) (st := st) (fun y hy => h.ev y (by simp [Op.operands, hy])), ← oV_congr (x := hi) (st := st) (fun y hy => h.ev y (by simp [Op.operands, hy])), ← oV_congr (x := some m) (st := st) (fun y hy => h.ev y (by cases hy; simp [Op.operands]))]
      exact hd
    | none =>
      simp only [denOp] at *
      rw [← h.ev x (by simp [Op.operands]), ← oV_congr (x := lo) (st := st) (fun y hy => h.ev y (by simp [Op.operands, hy])), ← oV_congr (x := hi) (st := st) (fun y hy => h.ev y (by simp [Op.operands, hy]))]
      exact hd
  | fieldAddr T x f => simp only [denOp] at *; rw [← h.ev x (by simp [Op.operands])]; exact hd
  | indexAddr T x i => simp only [denOp] at *; rw [← h.ev x (by simp [Op.operands]), ← h.ev i (by simp [Op.operands])]; exact hd
  | index T x i => simp only [denOp] at *; rw [← h.ev x (by simp [Op.operands]), ← h.ev i (by simp [Op.operands])]; exact hd
  | extract x i => simp only [denOp] at *; rw [← h.ev x (by simp [Op.operands])]; exact hd
  | field T x f => simp only [denOp] at *; rw [← h.ev x (by simp [Op.operands])]; exact hd
  | makeFunc fn first captured =>
    cases fn with
    | func f =>
      simp only [denOp] at *
      rw [← toVs_congr (xs := first.toList) (st := st) (fun y hy => h.ev y (by simp only [Op.operands, Array.toList_append]; exact List.mem_append_left _ hy)), ← toVs_congr (xs := captured.toList) (st := st) (fun y hy => h.ev y (by simp only [Op.operands, Array.toList_append]; exact List.mem_append_right _ hy))]
      exact hd
    | _ => exact hd.elim
  | call c =>
    obtain ⟨cal, as, ats⟩ := c
    have hin : ∀ y, y ∈ as.toList → y ∈ (Op.call ⟨cal, as, ats⟩).operands.toList := fun y hy => by
      simp only [Op.operands, Call.operands]
      cases cal <;> simp [Array.mem_def, hy]
    cases cal with
    | value x =>
      cases x with
      | func f =>
        simp only [denOp] at *
        rw [← toVs_congr (st := st) (fun y hy => h.ev y (hin y hy))]
        exact hd
      | tmp t =>
        simp only [denOp] at *
        rw [← toVs_congr (st := st) (fun y hy => h.ev y (hin y hy)), ← h.ev (.tmp t) (by simp [Op.operands, Call.operands])]
        exact hd
      | const v => exact hd.elim
      | global g => exact hd.elim
    | invoke r m => exact hd.elim
    | builtin b =>
      simp only [denOp] at *
      unfold denB at *
      split at hd
      · rename_i x T ts hax hat
        have hm := hin x (by rw [hax]; simp)
        rw [← h.ev x hm]
        exact hd
      · rename_i x y T T2 ts hax hat
        have hmx := hin x (by rw [hax]; simp)
        have hmy := hin y (by rw [hax]; simp)
        have key := h.ls y hmy
        rw [← h.ev x hmx, ← h.ev y hmy]
        revert hd
        generalize ev st y = Y at key
        generalize toV (ev st x) = X
        generalize elemOf P T = E1
        generalize elemOf P T2 = E2
        rcases E1 with _ | e1
        · exact id
        rcases E2 with _ | e2
        · exact id
        rcases X with _ | v
        · exact id
        dsimp only
        generalize tyOf P e1 = A
        generalize zeroOf P e1 = B
        generalize Nat.beq T T2 = C
        rcases A with _ | ⟨g, _ | n⟩
        · exact id
        · exact id
        rcases B with _ | z
        · exact id
        cases C with
        | false => exact id
        | true =>
          dsimp only
          cases Y with
          | ls k m => dsimp only; rw [key k m rfl]; exact id
          | _ => exact id
      · rename_i _ x y hax
        rw [← h.ev x (hin x (by rw [hax]; simp)), ← h.ev y (hin y (by rw [hax]; simp))]
        exact hd
      · rename_i _ x y hax
        rw [← h.ev x (hin x (by rw [hax]; simp)), ← h.ev y (hin y (by rw [hax]; simp))]
        exact hd
      · rename_i x T ts hax hat
        rw [← h.ev x (hin x (by rw [hax]; simp))]
        exact hd
      · exact hd.elim
  | _ => exact hd.elim
end
end Go.Av

/- The abstract layer, draws, part 2: a free operation has one result; it stays so while the rows grow. -/
set_option linter.unusedVariables false
set_option linter.unusedSimpArgs false
namespace Go.Av
open Go Go.RowKit

/-- The box that an address, or a slice, leads into. -/
def bxOf : TV → Option Nat
  | .lp k _ => some k
  | .ls k _ => some k
  | _ => none
def LpOk (st : St) : Prop := ∀ y k, bxOf (ev st y) = some k → st.bx k ≠ none

section
variable {P : Program} {w0 : World} {st st' : St} {σ σ' : Vw} {esc : Nat → Bool} {dst : Option Tmp} {K : TV → Eff → Vw → Prop} {call : FuncId → List Value → Vw → (Value → Vw → Prop) → Prop} {gk : List (Nat × Bool)}

theorem denOp_gk {op : Op} (hg : GkOk gk st) (h : denOp P w0 call esc gk dst op st σ K) : denOp P w0 call esc [] dst op st σ K := by
  cases op with
  | pick c x y =>
    have key := fun b => known_val (c := c) (b := b) hg
    simp only [denOp] at *
    have hnil : ∀ b, knownB [] st c = some b → ev st c = .lit b := by
      intro b hb
      unfold knownB at hb
      split at hb
      · rename_i b' he; cases hb; exact he
      · split at hb <;> cases hb
      · cases hb
    cases h0 : knownB [] st c with
    | some b =>
      have h1 := hnil b h0
      have h2 : knownB gk st c = some b := by unfold knownB; rw [h1]
      rw [h2] at h
      exact h
    | none =>
      cases h1 : knownB gk st c with
      | none => rw [h1] at h; exact h
      | some b =>
        rw [h1] at h
        have h2 := key b h1
        cases hev : ev st c with
        | lit b' =>
          have : knownB [] st c = some b' := by unfold knownB; rw [hev]
          rw [h0] at this; cases this
        | val v =>
          rw [hev] at h2
          cases h2
          refine ⟨b, rfl, fun hb => ?_, fun hb => ?_⟩
          · subst hb; exact h
          · subst hb; exact h
        | lp k j => rw [hev] at h2; cases h2
        | ls k j => rw [hev] at h2; cases h2
        | unk => rw [hev] at h2; cases h2
        | und => rw [hev] at h2; cases h2
  | slice T x lo hi mx => cases mx <;> exact h
  | makeFunc fn a b => cases fn <;> exact h
  | _ => exact h

/-- One result. -/
def One (st : St) (σ : Vw) (dst : Option Tmp) (xs : List Operand) (D : (TV → Eff → Vw → Prop) → Prop) (K : TV → Eff → Vw → Prop) : Prop :=
  ∃ x e, K x e σ ∧ (∀ K' : TV → Eff → Vw → Prop, K' x e σ → D K') ∧ (∀ k cs, e = some (k, cs) → dst = some k ∧ st.bx k = none) ∧ ∀ k, bxOf x = some k → (∃ cs, e = some (k, cs)) ∨ ∃ y, y ∈ xs ∧ bxOf (ev st y) = some k

theorem fill_one {place : Nat → Option (Nat × (Bool × Nat))} {A : List Value → Prop} : ∀ {ps : List (Nat × Operand)} {cs : List Value}, fillParts st place ps cs A → ∃ c, A c ∧ ∀ A' : List Value → Prop, A' c → fillParts st place ps cs A'
  | [], cs, h => ⟨cs, h, fun _ h => h⟩
  | (i, x) :: r, cs, h => by
    simp only [fillParts] at h
    split at h
    · rename_i off g n v hp hv
      split at h
      · rename_i hb
        obtain ⟨hv1, h⟩ := h
        obtain ⟨c, hc, hA⟩ := fill_one h
        refine ⟨c, hc, fun A' hA' => ?_⟩
        simp only [fillParts, hp, hv, hb]
        exact ⟨hv1, hA A' hA'⟩
      · exact h.elim
    · exact h.elim

theorem mk_one {k : Nat} {ety : Nat} {cs : List Value} {loc : Nat → TV} {far : Nat → Value} (hd : dst = some k) (he : esc k = false) (hl : bxOf (loc k) = some k) {xs : List Operand} (h : mkBox w0 esc dst ety st cs σ loc far K) : One st σ dst xs (mkBox w0 esc dst ety st cs σ loc far) K := by
  subst hd
  simp only [mkBox, he] at h
  split at h
  · rename_i hk
    refine ⟨loc k, some (k, cs), h, fun K' hK' => ?_, fun k' cs' e => ?_, ?_⟩
    · simp only [mkBox, he, hk]; exact hK'
    · cases e; exact ⟨by trivial, hk⟩
    · intro k' hk'
      rw [hl] at hk'
      cases hk'
      exact .inl ⟨cs, rfl⟩
  · exact h.elim

theorem local_of {esc : Nat → Bool} {dst : Option Tmp} (h : isLoc esc dst = true) : ∃ k, dst = some k ∧ esc k = false := by
  cases dst with
  | none => cases h
  | some k => exact ⟨k, rfl, by simpa [isLoc] using h⟩

theorem free_one {op : Op} (hf : isFree P esc dst op = true) (h : denOp P w0 call esc [] dst op st σ K) : One st σ dst op.operands.toList (denOp P w0 call esc [] dst op st σ) K := by
  have nn : ∀ k cs, (none : Eff) = some (k, cs) → dst = some k ∧ st.bx k = none := fun _ _ h => nomatch h
  cases op with
  | move x => exact ⟨_, _, h, fun _ h => h, nn, fun k hk => .inr ⟨x, by simp [Op.operands], hk⟩⟩
  | assign x => exact ⟨_, _, h, fun _ h => h, nn, fun k hk => .inr ⟨x, by simp [Op.operands], hk⟩⟩
  | pick c x y =>
    unfold One
    simp only [denOp] at h ⊢
    split at h
    · exact ⟨_, _, h, fun _ h => h, nn, fun k hk => .inr ⟨x, by simp [Op.operands], hk⟩⟩
    · exact ⟨_, _, h, fun _ h => h, nn, fun k hk => .inr ⟨y, by simp [Op.operands], hk⟩⟩
    · split at h
      · rename_i v hv
        obtain ⟨b, rfl, h1, h2⟩ := h
        cases b with
        | true => exact ⟨_, _, h1 rfl, fun _ h => ⟨true, rfl, fun _ => h, nofun⟩, nn, fun k hk => .inr ⟨x, by simp [Op.operands], hk⟩⟩
        | false => exact ⟨_, _, h2 rfl, fun _ h => ⟨false, rfl, nofun, fun _ => h⟩, nn, fun k hk => .inr ⟨y, by simp [Op.operands], hk⟩⟩
      · exact h.elim
  | alloc T =>
    obtain ⟨k, hd, he⟩ := local_of hf
    unfold One
    simp only [denOp] at h ⊢
    split at h
    · obtain ⟨x, e, h1, h2, h3, h4⟩ := mk_one hd he rfl h
      exact ⟨x, e, h1, h2, h3, h4⟩
    · exact h.elim
  | box T x =>
    obtain ⟨k, hd, he⟩ := local_of hf
    unfold One
    simp only [denOp] at h ⊢
    split at h
    · obtain ⟨x, e, h1, h2, h3, h4⟩ := mk_one hd he rfl h.2
      exact ⟨x, e, h1, fun K' hK' => ⟨h.1, h2 K' hK'⟩, h3, h4⟩
    · exact h.elim
  | build T ps =>
    unfold One
    simp only [denOp] at h ⊢
    split at h
    · split at h
      · obtain ⟨c, hc, hA⟩ := fill_one h
        exact ⟨_, _, hc, fun K' hK' => hA _ hK', nn, fun k hk => nomatch hk⟩
      · exact h.elim
    · split at h
      · obtain ⟨c, hc, hA⟩ := fill_one h
        exact ⟨_, _, hc, fun K' hK' => hA _ hK', nn, fun k hk => nomatch hk⟩
      · exact h.elim
    · exact h.elim
  | buildSlice T n ps =>
    obtain ⟨k, hd, he⟩ := local_of hf
    unfold One
    simp only [denOp] at h ⊢
    split at h
    · split at h
      · split at h
        · obtain ⟨c, hc, hA⟩ := fill_one h
          obtain ⟨x, e, h1, h2, h3, h4⟩ := mk_one hd he rfl hc
          exact ⟨x, e, h1, fun K' hK' => hA _ (h2 K' hK'), h3, h4⟩
        · exact h.elim
      · exact h.elim
    · exact h.elim
  | load T x =>
    unfold One
    simp only [denOp] at h ⊢
    split at h
    · split at h
      · split at h
        · split at h
          · exact ⟨_, _, h, fun _ h => h, nn, fun k hk => nomatch hk⟩
          · exact h.elim
        · exact h.elim
      · obtain ⟨a, g, h1, h2, h3⟩ := h
        exact ⟨_, _, h3, fun _ h => ⟨a, g, h1, h2, h⟩, nn, fun k hk => nomatch hk⟩
      · exact h.elim
    · exact h.elim
  | nilCheck x =>
    unfold One
    simp only [denOp] at h ⊢
    split at h
    · rename_i k j hev
      exact ⟨_, _, h, fun _ h => h, nn, fun k' hk => .inr ⟨x, by simp [Op.operands], by rw [hev]; exact hk⟩⟩
    · obtain ⟨ad, h1, h2⟩ := h
      exact ⟨_, _, h2, fun _ h => ⟨ad, h1, h⟩, nn, fun k hk => nomatch hk⟩
    · exact h.elim
  | binOp op T x y yT =>
    unfold One
    simp only [denOp] at h ⊢
    split at h
    · obtain ⟨r, h1, h2⟩ := h
      exact ⟨_, _, h2, fun _ h => ⟨r, h1, h⟩, nn, fun k hk => nomatch hk⟩
    · exact h.elim
  | unOp op T x =>
    unfold One
    simp only [denOp] at h ⊢
    split at h
    · obtain ⟨r, h1, h2⟩ := h
      exact ⟨_, _, h2, fun _ h => ⟨r, h1, h⟩, nn, fun k hk => nomatch hk⟩
    · exact h.elim
  | convert s d x =>
    unfold One
    simp only [isFree] at hf
    simp only [denOp] at h ⊢
    split at h
    · obtain ⟨k', n, h1, h2⟩ := h
      exact ⟨_, _, h2, fun _ h => ⟨k', n, h1, h⟩, nn, fun k hk => nomatch hk⟩
    · split at h
      · rcases h with ⟨n, c, h1, h2⟩ | ⟨b, off, n, c, xs, h1, h2, h3, h4⟩
        · exact ⟨_, _, h2, fun _ h => .inl ⟨n, c, h1, h⟩, nn, fun k hk => nomatch hk⟩
        · exact ⟨_, _, h4, fun _ h => .inr ⟨b, off, n, c, xs, h1, h2, h3, h⟩, nn, fun k hk => nomatch hk⟩
      · exact h.elim
    · rename_i hu hd hv
      rw [hd] at hf
      cases hf
    · exact h.elim
  | slice T x lo hi mx =>
    cases mx with
    | some m =>
      unfold One
      simp only [denOp] at h ⊢
      split at h
      · split at h
        · obtain ⟨A, len, cap, l, hh, m, h1, h2, h3, h4, h5, h6, h7, h8, h9, h10, h11⟩ := h
          exact ⟨_, _, h11, fun _ h => ⟨A, len, cap, l, hh, m, h1, h2, h3, h4, h5, h6, h7, h8, h9, h10, h⟩, nn, fun k hk => nomatch hk⟩
        · exact h.elim
      · exact h.elim
    | none =>
      unfold One
      simp only [denOp] at h ⊢
      split at h
      · obtain ⟨s, l, hh, h1, h2, h3, h4, h5, h6, h7⟩ := h
        exact ⟨_, _, h7, fun _ h => ⟨s, l, hh, h1, h2, h3, h4, h5, h6, h⟩, nn, fun k hk => nomatch hk⟩
      · split at h
        · obtain ⟨A, len, cap, l, hh, h1, h2, h3, h4, h5, h6, h7⟩ := h
          exact ⟨_, _, h7, fun _ h => ⟨A, len, cap, l, hh, h1, h2, h3, h4, h5, h6, h⟩, nn, fun k hk => nomatch hk⟩
        · exact h.elim
      · exact h.elim
  | fieldAddr T x f =>
    unfold One
    simp only [denOp] at h ⊢
    split at h
    · rename_i oo k j ho hev
      exact ⟨_, _, h, fun _ h => h, nn, fun k' hk => .inr ⟨x, by simp [Op.operands], by rw [hev]; exact hk⟩⟩
    · obtain ⟨ad, h1, h2⟩ := h
      exact ⟨_, _, h2, fun _ h => ⟨ad, h1, h⟩, nn, fun k hk => nomatch hk⟩
    · exact h.elim
  | indexAddr T x i =>
    unfold One
    simp only [denOp] at h ⊢
    split at h
    · split at h
      · obtain ⟨a, len, cap, k, n, h1, h2, h3, h4, h5⟩ := h
        exact ⟨_, _, h5, fun _ h => ⟨a, len, cap, k, n, h1, h2, h3, h4, h⟩, nn, fun k hk => nomatch hk⟩
      · exact h.elim
    · split at h
      · obtain ⟨a, k, n, h1, h2, h3, h4, h5⟩ := h
        exact ⟨_, _, h5, fun _ h => ⟨a, k, n, h1, h2, h3, h4, h⟩, nn, fun k hk => nomatch hk⟩
      · exact h.elim
    · exact h.elim
  | index T x i =>
    unfold One
    simp only [denOp] at h ⊢
    split at h
    · obtain ⟨s, k, n, h1, h2, h3, h4, h5⟩ := h
      exact ⟨_, _, h5, fun _ h => ⟨s, k, n, h1, h2, h3, h4, h⟩, nn, fun k hk => nomatch hk⟩
    · exact h.elim
  | extract x i =>
    unfold One
    simp only [denOp] at h ⊢
    split at h
    · obtain ⟨vs, h1, h2, h3⟩ := h
      exact ⟨_, _, h3, fun _ h => ⟨vs, h1, h2, h⟩, nn, fun k hk => nomatch hk⟩
    · exact h.elim
  | field T x f =>
    unfold One
    simp only [denOp] at h ⊢
    split at h
    · split at h
      · split at h
        · split at h
          · exact ⟨_, _, h.2, fun _ h' => ⟨h.1, h'⟩, nn, fun k hk => nomatch hk⟩
          · exact h.elim
        · exact h.elim
      · exact h.elim
    · exact h.elim
  | makeFunc fn first captured =>
    cases fn with
    | func f =>
      unfold One
      simp only [denOp] at h ⊢
      split at h
      · exact ⟨_, _, h, fun _ h => h, nn, fun k hk => nomatch hk⟩
      · exact h.elim
    | _ => exact h.elim
  | call c =>
    obtain ⟨cal, as, ats⟩ := c
    cases cal with
    | value x => cases hf
    | invoke r m => cases hf
    | builtin b =>
      unfold One
      simp only [denOp] at h ⊢
      unfold denB at *
      split at h
      · split at h
        · obtain ⟨s, h1, h2⟩ := h
          exact ⟨_, _, h2, fun _ h => ⟨s, h1, h⟩, nn, fun k hk => nomatch hk⟩
        · obtain ⟨A, n, c, h1, h2⟩ := h
          exact ⟨_, _, h2, fun _ h => ⟨A, n, c, h1, h⟩, nn, fun k hk => nomatch hk⟩
        · exact ⟨_, _, h, fun _ h => h, nn, fun k hk => nomatch hk⟩
        · exact h.elim
      · cases hf
      · split at h
        · obtain ⟨k, a, b, h1, h2, h3⟩ := h
          exact ⟨_, _, h3, fun _ h => ⟨k, a, b, h1, h2, h⟩, nn, fun k hk => nomatch hk⟩
        · exact h.elim
      · split at h
        · obtain ⟨k, a, b, h1, h2, h3⟩ := h
          exact ⟨_, _, h3, fun _ h => ⟨k, a, b, h1, h2, h⟩, nn, fun k hk => nomatch hk⟩
        · exact h.elim
      · cases hf
      · exact h.elim
  | store T x y => cases hf
  | makeSlice T l c => cases hf
  | _ => exact h.elim

/-- What a load reads in rows is read still. -/
def Stay (w0 : World) (σ σ' : Vw) (v : Value) (n : Nat) : Prop := ∀ a g, v = .pointer (some a) → cellsAt w0 σ a n g → cellsAt w0 σ' a n g
/-- What an operation that waits sees of the rows. -/
inductive See where
  | no
  | cell (n : Nat) (v : Value)
  | all
def seen (P : Program) (op : Op) (ad : TV) : See :=
  match op with
  | .load T _ => match tyOf P T with
    | some (_, n) => match ad with
      | .val v => .cell n v
      | _ => .no
    | none => .no
  | .convert s _ _ => match P.underlying s with
    | some (.slice _) => .all
    | _ => .no
  | _ => .no
def adOf (op : Op) (st : St) : TV := match op with | .load _ x => ev st x | _ => .unk
def Seen (w0 : World) (σ σ' : Vw) : See → Prop
  | .no => True
  | .cell n v => Stay w0 σ σ' v n
  | .all => Ext σ σ'
theorem Seen.refl : ∀ {s : See}, Seen w0 σ σ s
  | .no => trivial
  | .cell _ _ => fun _ _ _ h => h
  | .all => Ext.refl σ

theorem free_stay {op : Op} (hf : isFree P esc dst op = true) (hx : Seen w0 σ σ' (seen P op (adOf op st))) (h : denOp P w0 call esc [] dst op st σ fun x e _ => K x e σ') : denOp P w0 call esc [] dst op st σ' K := by
  cases op with
  | alloc T =>
    obtain ⟨k, hd, he⟩ := local_of hf
    subst hd
    simp only [denOp, mkBox, he] at h ⊢
    exact h
  | box T x =>
    obtain ⟨k, hd, he⟩ := local_of hf
    subst hd
    simp only [denOp, mkBox, he] at h ⊢
    exact h
  | buildSlice T n ps =>
    obtain ⟨k, hd, he⟩ := local_of hf
    subst hd
    simp only [denOp, mkBox, he] at h ⊢
    exact h
  | load T x =>
    simp only [denOp] at h ⊢
    split at h
    · rename_i g n ht
      split at h
      · exact h
      · rename_i v hv
        obtain ⟨a, g, h1, h2, h3⟩ := h
        have hx' : Stay w0 σ σ' v n := by
          simp only [seen, adOf, ht, hv, Seen] at hx
          exact hx
        exact ⟨a, g, h1, hx' a g h1 h2, h3⟩
      · exact h.elim
    · exact h.elim
  | convert s d x =>
    simp only [isFree] at hf
    simp only [denOp] at h ⊢
    split at h
    · exact h
    · rename_i e hu _ _
      have hx : Ext σ σ' := by simpa only [seen, hu, Seen] using hx
      split at h
      · rcases h with ⟨n, c, h1, h2⟩ | ⟨b, off, n, c, xs, h1, h2, h3, h4⟩
        · exact .inl ⟨n, c, h1, h2⟩
        · exact .inr ⟨b, off, n, c, xs, h1, h2, fun j hj => get_ext hx (h3 j hj), h4⟩
      · exact h.elim
    · rename_i hu hd hv
      rw [hd] at hf
      cases hf
    · exact h.elim
  | slice T x lo hi mx =>
    cases mx with
    | some m => exact h
    | none => exact h
  | makeFunc fn a b => cases fn <;> exact h
  | call c =>
    obtain ⟨cal, as, ats⟩ := c
    cases cal with
    | value x => cases hf
    | invoke r m => cases hf
    | builtin b =>
      cases b with
      | len =>
        simp only [denOp, denB] at h ⊢
        split at h
        · exact h
        · rename_i heq _ _; cases heq
        · rename_i heq _; cases heq
        · rename_i heq _; cases heq
        · rename_i heq _ _; cases heq
        · exact h.elim
      | min =>
        simp only [denOp, denB] at h ⊢
        split at h
        · rename_i heq _ _; cases heq
        · rename_i heq _ _; cases heq
        · exact h
        · rename_i heq _; cases heq
        · rename_i heq _ _; cases heq
        · exact h.elim
      | max =>
        simp only [denOp, denB] at h ⊢
        split at h
        · rename_i heq _ _; cases heq
        · rename_i heq _ _; cases heq
        · rename_i heq _; cases heq
        · exact h
        · rename_i heq _ _; cases heq
        · exact h.elim
      | _ => cases hf
  | store T x y => cases hf
  | makeSlice T l c => cases hf
  | _ => exact h


theorem eff_none {st : St} {k i : Nat} {cs : List Value} (hk : st.bx k ≠ none) (hi : st.bx i = none) : (st.eff (some (k, cs))).bx i = none := by
  simp only [St.eff]
  cases hb : Nat.beq k i with
  | true => rw [Nat.eq_of_beq_eq_true hb] at hk; exact absurd hi hk
  | false => exact hi
theorem ev_eff' {st : St} {e : Eff} {y : Operand} : ev (st.eff e) y = ev st y := by cases e <;> rfl

/-- A box is written that the operation doesn't read. -/
theorem free_bx {op : Op} {k : Nat} {cs : List Value} (hf : isFree P esc dst op = true) (hk : st.bx k ≠ none) (hl : ∀ T x, op = .load T x → ∀ j, ev st x ≠ .lp k j) (h : denOp P w0 call esc [] dst op st σ K) : denOp P w0 call esc [] dst op (st.eff (some (k, cs))) σ K := by
  have hev : ∀ y, ev (st.eff (some (k, cs))) y = ev st y := fun _ => ev_eff'
  have hvs : ∀ xs, toVs (st.eff (some (k, cs))) xs = toVs st xs := fun xs => toVs_congr fun y _ => hev y
  have hov : ∀ x, oV (st.eff (some (k, cs))) x = oV st x := fun x => oV_congr fun y _ => hev y
  have mk : ∀ {ety : Nat} {c : List Value} {loc : Nat → TV} {far : Nat → Value}, mkBox w0 esc dst ety st c σ loc far K → mkBox w0 esc dst ety (st.eff (some (k, cs))) c σ loc far K := fun h => mk_congr (fun i _ hi => eff_none hk hi) h
  cases op with
  | alloc T =>
    simp only [denOp] at h ⊢
    split at h
    · exact mk h
    · exact h.elim
  | box T x =>
    simp only [denOp, hev] at h ⊢
    split at h
    · exact ⟨h.1, mk h.2⟩
    · exact h.elim
  | build T ps =>
    simp only [denOp] at h ⊢
    split at h
    · split at h
      · exact fill_congr (fun y _ => (hev y).symm) h
      · exact h.elim
    · split at h
      · exact fill_congr (fun y _ => (hev y).symm) h
      · exact h.elim
    · exact h.elim
  | buildSlice T n ps =>
    simp only [denOp] at h ⊢
    split at h
    · split at h
      · split at h
        · obtain ⟨c, hc, hA⟩ := fill_one h
          exact fill_congr (fun y _ => (hev y).symm) (hA _ (mk hc))
        · exact h.elim
      · exact h.elim
    · exact h.elim
  | load T x =>
    simp only [denOp, hev] at h ⊢
    split at h
    · rename_i g n ht
      split at h
      · rename_i k' j hx
        have hne : k' ≠ k := fun e => hl T x rfl j (by rw [hx, e])
        have hb : (st.eff (some (k, cs))).bx k' = st.bx k' := by
          simp only [St.eff]
          cases hb : Nat.beq k k' with
          | true => exact absurd (Nat.eq_of_beq_eq_true hb).symm hne
          | false => rfl
        rw [hb]; exact h
      · exact h
      · exact h.elim
    · exact h.elim
  | move x => simpa only [denOp, hev] using h
  | assign x => simpa only [denOp, hev] using h
  | pick c x y => simpa only [denOp, knownB, hev] using h
  | nilCheck x => simpa only [denOp, hev] using h
  | binOp o T x y z => simpa only [denOp, hev] using h
  | unOp o T x => simpa only [denOp, hev] using h
  | slice T x lo hi mx => cases mx <;> simpa only [denOp, hev, hov] using h
  | fieldAddr T x f => simpa only [denOp, hev] using h
  | indexAddr T x i => simpa only [denOp, hev] using h
  | index T x i => simpa only [denOp, hev] using h
  | extract x i => simpa only [denOp, hev] using h
  | field T x f => simpa only [denOp, hev] using h
  | makeFunc fn a b => cases fn <;> first | exact False.elim h | simpa only [denOp, hvs] using h
  | convert s d x => simpa only [denOp, hev] using h
  | call c =>
    obtain ⟨cal, as, ats⟩ := c
    cases cal with
    | value x => cases hf
    | invoke r m => cases hf
    | builtin b =>
      cases b with
      | len =>
        simp only [denOp] at h ⊢
        unfold denB at h ⊢
        simp only [hev]
        split at h <;> first | exact h | (rename_i heq _ _; cases heq) | (rename_i heq _; cases heq)
      | min =>
        simp only [denOp] at h ⊢
        unfold denB at h ⊢
        simp only [hev]
        split at h <;> first | exact h | (rename_i heq _ _; cases heq) | (rename_i heq _; cases heq)
      | max =>
        simp only [denOp] at h ⊢
        unfold denB at h ⊢
        simp only [hev]
        split at h <;> first | exact h | (rename_i heq _ _; cases heq) | (rename_i heq _; cases heq)
      | _ => cases hf
  | _ => first | exact h.elim | cases hf

/-- Which of the frame's own boxes is written. -/
def ownStore (op : Op) (st : St) : Option Nat :=
  match op with
  | .store _ x _ => match ev st x with
    | .lp k _ => some k
    | _ => none
  | _ => none

/-- Neither free nor a store: no box is written. -/
theorem hard_none {op : Op} (hf : isFree P esc dst op = false) (hh : isHard op = false) (h : denOp P w0 (AC P w0) esc [] dst op st σ K) :
    denOp P w0 (AC P w0) esc [] dst op st σ fun x e σ' => e = none ∧ K x e σ' := by
  have mkn : ∀ {ety : Nat} {cs : List Value} {loc : Nat → TV} {far : Nat → Value}, isLoc esc dst = false → mkBox w0 esc dst ety st cs σ loc far K → mkBox w0 esc dst ety st cs σ loc far fun x e σ' => e = none ∧ K x e σ' := by
    intro ety cs loc far hd h
    cases dst with
    | none => exact h
    | some k =>
      have hd' : esc k = true := by simpa [isLoc] using hd
      simp only [mkBox, hd'] at h ⊢
      exact fun b h1 h2 => ⟨True.intro, h b h1 h2⟩
  cases op with
  | alloc T =>
    simp only [denOp] at h ⊢
    split at h
    · exact mkn hf h
    · exact h.elim
  | box T x =>
    simp only [denOp] at h ⊢
    split at h
    · exact ⟨h.1, mkn hf h.2⟩
    · exact h.elim
  | buildSlice T n ps =>
    simp only [denOp] at h ⊢
    split at h
    · split at h
      · split at h
        · obtain ⟨c, hc, hA⟩ := fill_one h
          exact hA _ (mkn hf hc)
        · exact h.elim
      · exact h.elim
    · exact h.elim
  | store T x y => cases hh
  | makeSlice T l c =>
    simp only [denOp] at h ⊢
    split at h
    · split at h
      · obtain ⟨k, n, h1, h2, h3, h4, h5, h6⟩ := h
        exact ⟨k, n, h1, h2, h3, h4, h5, fun b g1 g2 => ⟨by trivial, h6 b g1 g2⟩⟩
      · exact h.elim
    · exact h.elim
  | convert s d x =>
    simp only [isFree] at hf
    simp only [denOp] at h ⊢
    split at h
    · rename_i hd _
      rw [hd] at hf
      cases hf
    · rename_i hd _
      rw [hd] at hf
      cases hf
    · split at h
      · obtain ⟨s, h1, h2⟩ := h
        exact ⟨s, h1, fun b c g1 g2 g3 => ⟨by trivial, h2 b c g1 g2 g3⟩⟩
      · exact h.elim
    · exact h.elim
  | call c =>
    obtain ⟨cal, as, ats⟩ := c
    cases cal with
    | value x =>
      cases x with
      | func f =>
        simp only [denOp] at h ⊢
        split at h
        · exact AC.mono h fun _ _ h => ⟨by trivial, h⟩
        · exact h.elim
      | tmp t =>
        simp only [denOp] at h ⊢
        split at h
        · obtain ⟨f, fs, cs, h1, h2⟩ := h
          exact ⟨f, fs, cs, h1, AC.mono h2 fun _ _ h => ⟨by trivial, h⟩⟩
        · exact h.elim
      | _ => exact h.elim
    | invoke r m => exact h.elim
    | builtin b =>
      cases b with
      | append =>
        simp only [denOp, denB] at h ⊢
        split at h
        · rename_i heq _ _
          cases heq
        · split at h
          · split at h
            · split at h
              · split at h
                · split at h
                  · refine ⟨h.1, ?_⟩
                    rcases h.2 with ⟨b, off, n, c, r, h1, h2, h3, h4, h5, h6, h7⟩ | ⟨n, cells, h1, h2, h3, h4, h5⟩ | ⟨b, c, r, h1, h2, h3, h4, h5, h6, h7, h8⟩
                    · exact .inl ⟨b, off, n, c, r, h1, h2, h3, h4, h5, h6, by trivial, h7⟩
                    · exact .inr (.inl ⟨n, cells, h1, h2, h3, h4, fun v' σ' g => ⟨by trivial, h5 v' σ' g⟩⟩)
                    · exact .inr (.inr ⟨b, c, r, h1, h2, h3, h4, h5, h6, h7, fun b' c' q1 q2 q3 q4 => ⟨by trivial, h8 b' c' q1 q2 q3 q4⟩⟩)
                  · exact h.elim
                · exact h.elim
              · obtain ⟨A, m, c, new, h1, h2, h3, h4, g⟩ := h
                rcases g with ⟨b, off, n, c', r, g1, g2, g3, g4, g5, g6, g7⟩ | ⟨n, cells, g1, g2, g3, g4, g5⟩ | ⟨b, c', r, g1, g2, g3, g4, g5, g6, g7, g8⟩
                · exact ⟨A, m, c, new, h1, h2, h3, h4, .inl ⟨b, off, n, c', r, g1, g2, g3, g4, g5, g6, by trivial, g7⟩⟩
                · exact ⟨A, m, c, new, h1, h2, h3, h4, .inr (.inl ⟨n, cells, g1, g2, g3, g4, fun v' σ' g => ⟨by trivial, g5 v' σ' g⟩⟩)⟩
                · exact ⟨A, m, c, new, h1, h2, h3, h4, .inr (.inr ⟨b, c', r, g1, g2, g3, g4, g5, g6, g7, fun b' c' q1 q2 q3 q4 => ⟨by trivial, g8 b' c' q1 q2 q3 q4⟩⟩)⟩
              · exact h.elim
            · exact h.elim
          · exact h.elim
        · rename_i heq _; cases heq
        · rename_i heq _; cases heq
        · rename_i heq _ _; cases heq
        · exact h.elim
      | clear =>
        simp only [denOp, denB] at h ⊢
        split at h
        · rename_i heq _ _; cases heq
        · rename_i heq _ _; cases heq
        · rename_i heq _; cases heq
        · rename_i heq _; cases heq
        · split at h
          · split at h
            · obtain ⟨h1, h2, A, len, cap, h3, h4⟩ := h
              rcases h4 with ⟨h5, h6⟩ | ⟨b, off, r, h5, h6, h7, h8, h9⟩
              · exact ⟨h1, h2, A, len, cap, h3, .inl ⟨h5, by trivial, h6⟩⟩
              · exact ⟨h1, h2, A, len, cap, h3, .inr ⟨b, off, r, h5, h6, h7, h8, by trivial, h9⟩⟩
            · exact h.elim
          · exact h.elim
        · exact h.elim
      | len => cases hf
      | min => cases hf
      | max => cases hf
      | _ => exact h.elim
  | _ => first | exact h.elim | cases hf

/-- What is not free writes no box, or one of the frame's own. -/
theorem nonfree_eff {op : Op} (hf : isFree P esc dst op = false) (h : denOp P w0 (AC P w0) esc [] dst op st σ K) :
    denOp P w0 (AC P w0) esc [] dst op st σ fun x e σ' => ((e = none ∧ ownStore op st = none) ∨ ∃ k cs, e = some (k, cs) ∧ ownStore op st = some k ∧ st.bx k ≠ none ∧ σ' = σ) ∧ K x e σ' := by
  cases hh : isHard op with
  | false =>
    have hn : ownStore op st = none := by cases op <;> first | rfl | cases hh
    have := hard_none hf hh h
    have hm : (fun x e σ' => ((e = none ∧ ownStore op st = none) ∨ ∃ k cs, e = some (k, cs) ∧ ownStore op st = some k ∧ st.bx k ≠ none ∧ σ' = σ) ∧ K x e σ') = fun x e σ' => e = none ∧ K x e σ' := by
      funext x e σ'
      apply propext
      constructor
      · rintro ⟨⟨h, _⟩ | ⟨k, cs, _, h, _⟩, hK⟩
        · exact ⟨h, hK⟩
        · rw [hn] at h; cases h
      · rintro ⟨h, hK⟩
        exact ⟨.inl ⟨h, hn⟩, hK⟩
    rw [hm]; exact this
  | true =>
    cases op with
    | store T x y =>
      simp only [denOp] at h ⊢
      split at h
      · refine ⟨h.1, ?_⟩
        have h2 := h.2
        split at h2
        · rename_i k j hx
          split at h2
          · rename_i old hb
            split at h2
            · refine ⟨.inr ⟨k, _, by trivial, by simp [ownStore, hx], by rw [hb]; simp, by trivial⟩, h2⟩
            · exact h2.elim
          · exact h2.elim
        · rename_i v hx
          obtain ⟨b, off, r, g1, g2, g3, g4⟩ := h2
          exact ⟨b, off, r, g1, g2, g3, .inl ⟨by trivial, by simp [ownStore, hx]⟩, g4⟩
        · exact h2.elim
      · exact h.elim
    | _ => cases hh
end
end Go.Av

/- The abstract layer, draws, part 3: what has been reckoned out and is still to be run. -/
set_option linter.unusedVariables false
set_option linter.unusedSimpArgs false
namespace Go.Av
open Go Go.RowKit

structure PE where
  i : Nat
  o : Oper
  x : TV
  e : Eff
  ad : TV

def PE.app (p : PE) (st : St) : St := putT (st.eff p.e) p.o.dst p.x
def appL : List PE → St → St
  | [], st => st
  | p :: r, st => appL r (p.app st)

/-- Whether the operation is wanted. -/
def GoAt (ops : List Oper) (o : Oper) (st : St) (b : Bool) : Prop :=
  (o.guard = none ∧ b = true) ∨ (∃ g want t c, o.guard = some (g, want) ∧ guardSlot ops g = some t ∧ toV (ev st (.tmp t)) = some (.bool c) ∧ b = agree c want) ∨ ∃ g want t, o.guard = some (g, want) ∧ guardSlot ops g = some t ∧ ev st (.tmp t) = .und ∧ b = false

theorem appL_append : ∀ (a b : List PE) (st : St), appL (a ++ b) st = appL b (appL a st)
  | [], _, _ => rfl
  | p :: r, b, st => appL_append r b _

section
variable {P : Program} {w0 : World} {σ σ' : Vw} {esc : Nat → Bool} {call : FuncId → List Value → Vw → (Value → Vw → Prop) → Prop} {ops : Array Oper}

structure Fact (P : Program) (w0 : World) (call : FuncId → List Value → Vw → (Value → Vw → Prop) → Prop) (esc : Nat → Bool) (ops : Array Oper) (p : PE) (st : St) (σ : Vw) : Prop where
  eff : ∀ k cs, p.e = some (k, cs) → p.o.dst = some k ∧ st.bx k = none
  lp : ∀ k, bxOf p.x = some k → (∃ cs, p.e = some (k, cs)) ∨ ∃ y, y ∈ p.o.op.operands.toList ∧ bxOf (ev st y) = some k
  go : ∃ go, GoAt ops.toList p.o st go ∧ (go = true → ∀ K' : TV → Eff → Vw → Prop, K' p.x p.e σ → denOp P w0 call esc [] p.o.dst p.o.op st σ K') ∧ (go = false → p.x = .und ∧ p.e = none)
  ad : p.ad = adOf p.o.op st

def Facts (P : Program) (w0 : World) (call : FuncId → List Value → Vw → (Value → Vw → Prop) → Prop) (esc : Nat → Bool) (ops : Array Oper) : List PE → St → Vw → Prop
  | [], _, _ => True
  | p :: r, st, σ => Fact P w0 call esc ops p st σ ∧ Facts P w0 call esc ops r (p.app st) σ

theorem Facts.append {a b : List PE} : ∀ {st : St}, Facts P w0 call esc ops (a ++ b) st σ ↔ Facts P w0 call esc ops a st σ ∧ Facts P w0 call esc ops b (appL a st) σ := by
  induction a with
  | nil => intro st; simp [Facts, appL]
  | cons p r ih => intro st; simp only [List.cons_append, Facts, appL, ih, and_assoc]

/-! ### Frames that agree -/
theorem ev_putT {st : St} {dst : Option Tmp} {x : TV} {y : Operand} (h : ∀ d, dst = some d → y ≠ .tmp d) : ev (putT st dst x) y = ev st y := by
  cases dst with
  | none => rfl
  | some d =>
    cases y with
    | tmp t =>
      have hne : d ≠ t := fun e => h d rfl (by rw [e])
      simp only [ev, putT, List.getD_eq_getElem?_getD, List.getElem?_set_ne hne]
    | _ => rfl

theorem ev_eff {st : St} {e : Eff} {y : Operand} : ev (st.eff e) y = ev st y := by cases e <;> rfl

theorem bx_putT {st : St} {dst : Option Tmp} {x : TV} : (putT st dst x).bx = st.bx := by cases dst <;> rfl

theorem bx_app_ne {p : PE} {st : St} {k : Nat} (he : ∀ k cs, p.e = some (k, cs) → p.o.dst = some k ∧ st.bx k = none) (h : st.bx k ≠ none) : (p.app st).bx k = st.bx k := by
  unfold PE.app
  rw [bx_putT]
  cases hp : p.e with
  | none => rfl
  | some kc =>
    obtain ⟨k', cs⟩ := kc
    have h2 := (he k' cs hp).2
    exact eff_ne fun e => h (e ▸ h2)

theorem looks_op {o : Oper} {t : Nat} (h : Operand.tmp t ∈ o.op.operands.toList) : t ∈ o.looksAt ops :=
  List.mem_append_left _ (List.mem_filterMap.2 ⟨.tmp t, h, rfl⟩)

theorem looks_guard {o : Oper} {g : Nat} {want : Bool} {t : Nat} (hg : o.guard = some (g, want)) (ht : guardSlot ops.toList g = some t) : t ∈ o.looksAt ops := by
  have ht' : (ops[g]?).bind (·.dst) = some t := by rw [← ht, guardSlot, Array.getElem?_toList]
  refine List.mem_append_right _ ?_
  rw [hg]
  simp only [ht', Option.toList_some, List.mem_singleton]

theorem GoAt.congr {o : Oper} {st st' : St} {b : Bool} (h : ∀ t, t ∈ o.looksAt ops → ev st (.tmp t) = ev st' (.tmp t)) (hg : GoAt ops.toList o st b) : GoAt ops.toList o st' b := by
  rcases hg with h1 | ⟨g, want, t, c, h1, h2, h3, h4⟩ | ⟨g, want, t, h1, h2, h3, h4⟩
  · exact .inl h1
  · exact .inr (.inl ⟨g, want, t, c, h1, h2, by rw [← h t (looks_guard h1 h2)]; exact h3, h4⟩)
  · exact .inr (.inr ⟨g, want, t, h1, h2, by rw [← h t (looks_guard h1 h2)]; exact h3, h4⟩)

/-- A fact holds on in a frame that the operation can't tell apart. -/
theorem Fact.congr {p : PE} {st st' : St} (hf : Fact P w0 call esc ops p st σ) (h : ∀ t, t ∈ p.o.looksAt ops → ev st (.tmp t) = ev st' (.tmp t)) (hb : ∀ y, y ∈ p.o.op.operands.toList → ∀ k, bxOf (ev st y) = some k → st.bx k = st'.bx k) (hd : ∀ k, p.o.dst = some k → st.bx k = none → st'.bx k = none) : Fact P w0 call esc ops p st' σ := by
  have hev : ∀ y, y ∈ p.o.op.operands.toList → ev st y = ev st' y := by
    intro y hy
    cases y with
    | tmp t => exact h t (looks_op hy)
    | _ => rfl
  refine ⟨fun k cs e => ⟨(hf.eff k cs e).1, hd k (hf.eff k cs e).1 (hf.eff k cs e).2⟩, fun k hk => ?_, ?_, ?_⟩
  · rcases hf.lp k hk with h1 | ⟨y, hy, h1⟩
    · exact .inl h1
    · exact .inr ⟨y, hy, by rw [← hev y hy]; exact h1⟩
  · obtain ⟨go, h1, h2, h3⟩ := hf.go
    exact ⟨go, h1.congr h, fun hgo K' hK' => denOp_congr ⟨hev, fun y hy k j hk => hb y hy k (by rw [hk]; rfl), fun y hy k j hk => hb y hy k (by rw [hk]; rfl), hd⟩ (h2 hgo K' hK'), h3⟩
  · rw [hf.ad]
    cases hop : p.o.op with
    | load T x => exact hev x (by rw [hop]; simp [Op.operands])
    | _ => rfl

theorem Fact.lpOk {p : PE} {st : St} (hf : Fact P w0 call esc ops p st σ) (h : LpOk st) : LpOk (p.app st) := by
  have key : ∀ k, st.bx k ≠ none → (p.app st).bx k ≠ none := fun k hk => by rw [bx_app_ne hf.eff hk]; exact hk
  have hb : (p.app st).bx = (st.eff p.e).bx := by unfold PE.app; rw [bx_putT]
  have ht : (st.eff p.e).tmps = st.tmps := by cases p.e <;> rfl
  intro y k hk
  by_cases hy : ∃ d, p.o.dst = some d ∧ y = .tmp d
  · obtain ⟨d, hd, rfl⟩ := hy
    by_cases hlt : d < st.tmps.length
    · have : ev (p.app st) (.tmp d) = p.x := by
        simp only [PE.app, putT, hd, ev, ht]
        rw [List.getD_eq_getElem?_getD, List.getElem?_set_self hlt]; rfl
      rw [this] at hk
      rcases hf.lp k hk with ⟨cs, h1⟩ | ⟨y, hy, h1⟩
      · rw [hb, h1, eff_eq]; simp
      · exact key k (h y k h1)
    · have : ev (p.app st) (.tmp d) = ev st (.tmp d) := by
        simp only [PE.app, putT, hd, ev, ht]
        rw [List.set_eq_of_length_le (Nat.le_of_not_lt hlt)]
      rw [this] at hk; exact key k (h _ k hk)
  · have : ev (p.app st) y = ev st y := by
      unfold PE.app
      rw [ev_putT (fun d hd e => hy ⟨d, hd, e⟩), ev_eff]
    rw [this] at hk; exact key k (h _ k hk)

/-- While what it sees of the rows stays. -/
theorem Fact.stay {p : PE} {st : St} (hfree : isFree P esc p.o.dst p.o.op = true) (hf : Fact P w0 call esc ops p st σ) (hx : Seen w0 σ σ' (seen P p.o.op p.ad)) : Fact P w0 call esc ops p st σ' := by
  refine ⟨hf.eff, hf.lp, ?_, hf.ad⟩
  obtain ⟨go, h1, h2, h3⟩ := hf.go
  rw [hf.ad] at hx
  exact ⟨go, h1, fun hgo K' hK' => free_stay hfree hx (h2 hgo (fun x e _ => K' x e σ') hK'), h3⟩

/-- While a box is written that it doesn't read. -/
theorem Fact.bx {p : PE} {st : St} {k : Nat} {cs : List Value} (hfree : isFree P esc p.o.dst p.o.op = true) (hk : st.bx k ≠ none) (hl : ∀ T x, p.o.op = .load T x → ∀ j, p.ad ≠ .lp k j) (hf : Fact P w0 call esc ops p st σ) : Fact P w0 call esc ops p (st.eff (some (k, cs))) σ := by
  have hev : ∀ y, ev (st.eff (some (k, cs))) y = ev st y := fun _ => ev_eff
  refine ⟨fun k' c e => ⟨(hf.eff k' c e).1, eff_none hk (hf.eff k' c e).2⟩, fun k' h' => ?_, ?_, ?_⟩
  · rcases hf.lp k' h' with h1 | ⟨y, hy, h1⟩
    · exact .inl h1
    · exact .inr ⟨y, hy, by rw [hev]; exact h1⟩
  · obtain ⟨go, h1, h2, h3⟩ := hf.go
    refine ⟨go, h1.congr fun t _ => (hev _).symm, fun hgo K' hK' => free_bx hfree hk (fun T x hop j hx => hl T x hop j ?_) (h2 hgo K' hK'), h3⟩
    rw [hf.ad, hop]; exact hx
  · rw [hf.ad]
    cases p.o.op with
    | load T x => exact (hev x).symm
    | _ => rfl

/-- Two that hang on nothing of each other. -/
def Ap (ops : Array Oper) (p q : PE) : Prop := p.o.apart ops q.o = true

theorem app_comm' {p q : PE} {st : St} (h : Ap ops p q) (hpq : ∀ k cs k' cs', p.e = some (k, cs) → q.e = some (k', cs') → k ≠ k') : q.app (p.app st) = p.app (q.app st) := by
  obtain ⟨_, h2, _⟩ := Oper.apart_spec h
  have hb : ((st.eff p.e).eff q.e).bx = ((st.eff q.e).eff p.e).bx := by
    cases he : p.e with
    | none => rfl
    | some kc =>
      cases he' : q.e with
      | none => rfl
      | some kc' =>
        obtain ⟨k, cs⟩ := kc
        obtain ⟨k', cs'⟩ := kc'
        have hne : k ≠ k' := hpq _ _ _ _ he he'
        funext i
        by_cases e1 : i = k'
        · subst e1
          rw [eff_eq, eff_ne (Ne.symm hne), eff_eq]
        · rw [eff_ne e1]
          by_cases e2 : i = k
          · subst e2; rw [eff_eq, eff_eq]
          · rw [eff_ne e2, eff_ne e2, eff_ne e1]
  have ht : ∀ (s : St) e, (s.eff e).tmps = s.tmps := fun s e => by cases e <;> rfl
  have ht2 : (p.app st).tmps = (putT st p.o.dst p.x).tmps := by cases hd : p.o.dst <;> simp [PE.app, putT, hd, ht]
  have ht3 : (q.app st).tmps = (putT st q.o.dst q.x).tmps := by cases hd : q.o.dst <;> simp [PE.app, putT, hd, ht]
  have key : ∀ (a b : St), a.tmps = b.tmps → a.bx = b.bx → a = b := fun a b h1 h2 => by cases a; cases b; simp_all
  have hbe : ∀ (s t : St) e, s.bx = t.bx → (s.eff e).bx = (t.eff e).bx := fun s t e h => by cases e <;> simp [St.eff, h]
  apply key
  · cases hd : p.o.dst with
    | none => cases hd' : q.o.dst <;> simp [PE.app, putT, hd, hd', ht]
    | some d =>
      cases hd' : q.o.dst with
      | none => simp [PE.app, putT, hd, hd', ht]
      | some d' =>
        have hne : d ≠ d' := fun e => h2 d hd (by rw [hd', e])
        simp [PE.app, putT, hd, hd', ht, List.set_comm _ _ hne]
  · have e1 : (q.app (p.app st)).bx = ((st.eff p.e).eff q.e).bx := by
      unfold PE.app
      rw [bx_putT]
      exact hbe _ _ _ bx_putT
    have e2 : (p.app (q.app st)).bx = ((st.eff q.e).eff p.e).bx := by
      unfold PE.app
      rw [bx_putT]
      exact hbe _ _ _ bx_putT
    rw [e1, e2, hb]

theorem app_comm {p q : PE} {st : St} (h : Ap ops p q) (hp : ∀ k cs, p.e = some (k, cs) → p.o.dst = some k) (hq : ∀ k cs, q.e = some (k, cs) → q.o.dst = some k) : q.app (p.app st) = p.app (q.app st) := by
  obtain ⟨_, h2, _⟩ := Oper.apart_spec h
  exact app_comm' h fun k cs k' cs' he he' e => h2 k (hp _ _ he) (by rw [hq _ _ he', e])

/-- An operation that is apart from what stands ahead of it comes first. -/
theorem to_front : ∀ {A : List PE} {p : PE} {st : St}, (∀ a, a ∈ A → Ap ops a p) → LpOk st → Facts P w0 call esc ops A st σ → Fact P w0 call esc ops p (appL A st) σ →
    Fact P w0 call esc ops p st σ ∧ Facts P w0 call esc ops A (p.app st) σ ∧ appL A (p.app st) = p.app (appL A st)
  | [], p, st, hap, hlp, hA, hp => ⟨hp, trivial, rfl⟩
  | a :: A, p, st, hap, hlp, hA, hp => by
    obtain ⟨h1, h2, h3⟩ := to_front (st := a.app st) (fun b hb => hap b (List.mem_cons_of_mem _ hb)) (hA.1.lpOk hlp) hA.2 hp
    obtain ⟨g1, g2, g3⟩ := Oper.apart_spec (hap a List.mem_cons_self)
    have hpa : ∀ k cs, p.e = some (k, cs) → p.o.dst = some k := fun k cs e => (h1.eff k cs e).1
    have haa : ∀ k cs, a.e = some (k, cs) → a.o.dst = some k := fun k cs e => (hA.1.eff k cs e).1
    have hcomm : p.app (a.app st) = a.app (p.app st) := app_comm (hap a List.mem_cons_self) haa hpa
    have hev : ∀ t, t ∈ p.o.looksAt ops → ev (a.app st) (.tmp t) = ev st (.tmp t) := fun t ht => by
      unfold PE.app
      rw [ev_putT (fun d hd e => g1 d hd (by cases e; exact ht)), ev_eff]
    have hp0 : Fact P w0 call esc ops p st σ := by
      refine h1.congr hev (fun y hy k hk => ?_) (fun k hk hn => ?_)
      · refine bx_app_ne hA.1.eff (hlp y k ?_)
        cases y with
        | tmp t => rw [← hev t (looks_op hy)]; exact hk
        | _ => exact hk
      · cases hs : st.bx k with
        | none => rfl
        | some c => rw [bx_app_ne hA.1.eff (by rw [hs]; simp), hs] at hn; cases hn
    refine ⟨hp0, ⟨?_, by rw [← hcomm]; exact h2⟩, ?_⟩
    · refine hA.1.congr (fun t ht => ?_) (fun y hy k hk => ?_) (fun k hk hn => ?_)
      · unfold PE.app
        rw [ev_putT (fun d hd e => g3 d hd (by cases e; exact ht)), ev_eff]
      · exact (bx_app_ne hp0.eff (hlp y k hk)).symm
      · unfold PE.app
        rw [bx_putT]
        cases he : p.e with
        | none => exact hn
        | some kc =>
          obtain ⟨k', cs⟩ := kc
          rw [eff_ne fun e => g2 k hk (by rw [hpa _ _ he, e])]
          exact hn
    · show appL A (a.app (p.app st)) = _
      rw [← hcomm]
      exact h3
end
end Go.Av

/- The abstract layer, draws, part 4: a region whose order the machine draws. -/
set_option linter.unusedVariables false
set_option linter.unusedSimpArgs false
namespace Go.Av
open Go Go.RowKit

def memN : List Nat → Nat → Bool
  | [], _ => false
  | a :: r, i => bif Nat.beq a i then true else memN r i
theorem memN_iff : ∀ {l : List Nat} {i : Nat}, memN l i = true ↔ i ∈ l
  | [], i => by simp [memN]
  | a :: r, i => by
    simp only [memN, List.mem_cons]
    cases h : Nat.beq a i with
    | true => simp [Nat.eq_of_beq_eq_true h]
    | false =>
      have hne : a ≠ i := fun e => by rw [e, Nat.beq_refl] at h; cases h
      simp only [cond_false, memN_iff (l := r)]
      constructor
      · exact .inr
      · rintro (e | e)
        · exact absurd e.symm hne
        · exact e
theorem memN_false {l : List Nat} {i : Nat} : memN l i = false ↔ i ∉ l := by
  rw [← memN_iff]; simp

def allN (p : Nat → Bool) : List Nat → Bool
  | [] => true
  | a :: r => match p a with | true => allN p r | false => false
theorem allN_iff {p : Nat → Bool} : ∀ {l : List Nat}, allN p l = true ↔ ∀ i, i ∈ l → p i = true
  | [] => by simp [allN]
  | a :: r => by
    simp only [allN, List.forall_mem_cons]
    cases h : p a with
    | true => simp [allN_iff (l := r)]
    | false => simp

def anyN (p : Nat → Bool) : List Nat → Bool
  | [] => false
  | a :: r => match p a with | true => true | false => anyN p r
theorem anyN_iff {p : Nat → Bool} : ∀ {l : List Nat}, anyN p l = true ↔ ∃ i, i ∈ l ∧ p i = true
  | [] => by simp [anyN]
  | a :: r => by
    simp only [anyN, List.mem_cons, exists_eq_or_imp]
    cases h : p a with
    | true => simp
    | false => simp [anyN_iff (l := r)]

section
variable (P : Program) (esc : Nat → Bool) (ops : Array Oper)

/-- What must stand ahead. -/
def predsO (o : Oper) : List Nat := (o.after.toList.filter (Region.binds .any)).map (·.on)
def preds (i : Nat) : List Nat := match ops.toList[i]? with | some o => predsO o | none => []
def freeAt (i : Nat) : Bool := match ops.toList[i]? with | some o => isFree P esc o.dst o.op | none => false
def apartAt (i j : Nat) : Bool := match ops.toList[i]?, ops.toList[j]? with | some o, some o' => o.apart ops o' | _, _ => false

def lookN : List (Nat × List Nat) → Nat → List Nat
  | [], _ => []
  | (k, l) :: r, i => bif Nat.beq k i then l else lookN r i
def upTo : Nat → List Nat
  | 0 => []
  | n + 1 => n :: upTo n
theorem mem_upTo : ∀ {n i : Nat}, i ∈ upTo n ↔ i < n
  | 0, i => by simp [upTo]
  | n + 1, i => by simp only [upTo, List.mem_cons, mem_upTo (n := n)]; omega

variable (anc : Nat → List Nat)

/-- The orders that are reckoned out: one behind the other; of two of which either may come first, both. -/
inductive DT where
  | done
  | step (i : Nat) (t : DT)
  | both (a b : DT)
def DT.heads : DT → List Nat
  | .done => []
  | .step i _ => [i]
  | .both a b => a.heads ++ b.heads
def DT.depth : DT → Nat
  | .done => 0
  | .step _ t => t.depth + 1
  | .both a b => Nat.max a.depth b.depth

/-- May i come behind p? -/
def condAt (i p : Nat) : Bool :=
  match memN (anc i) p with
  | true => true
  | false => match freeAt P esc ops p with
    | true => apartAt ops p i
    | false => true
def okAt (pre : List Nat) (i : Nat) : Bool :=
  match Nat.ble (i + 1) ops.toList.length with
  | true => match memN pre i with
    | true => false
    | false => match allN (memN pre) (preds ops i) with
      | true => allN (condAt P esc ops anc i) pre
      | false => false
  | false => false
/-- Whatever is left hangs on one of these, or is one. -/
def cover (pre H : List Nat) : Bool := allN (fun y => match memN pre y with
  | true => true
  | false => match memN H y with
    | true => true
    | false => anyN (memN (anc y)) H) (upTo ops.toList.length)
def okT : Bool → List Nat → DT → Bool
  | cov, pre, .done => match cov with
    | true => allN (memN pre) (upTo ops.toList.length)
    | false => false
  | cov, pre, .step i t => match okAt P esc ops anc pre i with
    | true => match freeAt P esc ops i with
      | true => match cov with
        | true => okT true (i :: pre) t
        | false => false
      | false => match cov with
        | true => match cover ops anc pre [i] with
          | true => okT true (i :: pre) t
          | false => false
        | false => okT true (i :: pre) t
    | false => false
  | cov, pre, .both a b => match (match cov with | true => cover ops anc pre (a.heads ++ b.heads) | false => true) with
    | true => match okT false pre a with
      | true => okT false pre b
      | false => false
    | false => false

def okAnc (q : Nat) : Bool := allN (fun p => match memN (preds ops q) p with | true => true | false => anyN (fun d => memN (anc d) p) (preds ops q)) (anc q)
def okPre (q : Nat) : Bool := allN (fun d => match Nat.beq d q with | true => false | false => Nat.ble (d + 1) ops.toList.length) (preds ops q)

def drawOk (t : DT) : Bool :=
  match okT P esc ops anc true [] t with
  | true => match allN (okAnc ops anc) (upTo ops.toList.length) with
    | true => allN (okPre ops) (upTo ops.toList.length)
    | false => false
  | false => false

variable (w0 : World) (call : FuncId → List Value → Vw → (Value → Vw → Prop) → Prop)

/-- What has been reckoned out and may still be waiting, with what it reads from. -/
def lookTV : List (Nat × TV) → Nat → TV
  | [], _ => .unk
  | (k, x) :: r, i => bif Nat.beq k i then x else lookTV r i
def waits (wl : List (Nat × TV)) (i : Nat) : List Nat → List (Op × TV)
  | [] => []
  | p :: r => match memN (anc i) p with
    | true => waits wl i r
    | false => match freeAt P esc ops p with
      | true => match ops.toList[p]? with
        | some o => (o.op, lookTV wl p) :: waits wl i r
        | none => waits wl i r
      | false => waits wl i r
def boxOk (k : Nat) : List (Op × TV) → Bool
  | [] => true
  | (op, ad) :: r => match op with
    | .load _ _ => match ad with
      | .lp k' _ => bif Nat.beq k k' then false else boxOk k r
      | _ => boxOk k r
    | _ => boxOk k r
def stayK (σ σ' : Vw) : List (Op × TV) → Prop → Prop
  | [], A => A
  | (op, ad) :: r, A => match seen P op ad with
    | .no => stayK σ σ' r A
    | .cell n v => Stay w0 σ σ' v n ∧ stayK σ σ' r A
    | .all => Ext σ σ' ∧ stayK σ σ' r A

/-- In the orders of the tree; what may still be waiting reads what it read. -/
def denL : List Nat → DT → List (Nat × TV) → List (Nat × Bool) → St → Vw → (St → Vw → Prop) → Prop
  | _, .done, _, _, st, σ, K => K st σ
  | pre, .step i r, wl, gk, st, σ, K => match ops.toList[i]? with
    | none => False
    | some o => match isFree P esc o.dst o.op with
      | true => tvK (adOf o.op st) fun ad => denG P w0 call ops.toList esc gk o st σ fun gk st σ => denL (i :: pre) r ((i, ad) :: wl) gk st σ K
      | false => match ownStore o.op st with
        | some k => match boxOk k (waits P esc ops anc wl i pre) with
          | true => denG P w0 call ops.toList esc gk o st σ fun gk st σ => denL (i :: pre) r wl gk st σ K
          | false => False
        | none => denG P w0 call ops.toList esc gk o st σ fun gk st σ' => stayK P w0 σ σ' (waits P esc ops anc wl i pre) (denL (i :: pre) r wl gk st σ' K)
  | pre, .both a b, wl, gk, st, σ, K => denL pre a wl gk st σ K ∧ denL pre b wl gk st σ K
end

/-- A region whose order is drawn; a tree of orders and what must stand ahead of each are given, and are checked. -/
def denD (P : Program) (w0 : World) (call : FuncId → List Value → Vw → (Value → Vw → Prop) → Prop) (esc : Nat → Bool) (ord : DT) (anc : List (Nat × List Nat)) (ops : Array Oper) (st : St) (σ : Vw) (K : St → Vw → Prop) : Prop :=
  match drawOk P esc ops (lookN anc) ord with
  | true => denL P esc ops (lookN anc) w0 call [] ord [] [] st σ K
  | false => False

section
variable {P : Program} {w0 : World} {esc : Nat → Bool} {ops : Array Oper} {anc : Nat → List Nat} {call : FuncId → List Value → Vw → (Value → Vw → Prop) → Prop} {st : St} {σ : Vw} {gk : List (Nat × Bool)}

theorem okAt_spec {pre : List Nat} {i : Nat} (h : okAt P esc ops anc pre i = true) : i < ops.size ∧ i ∉ pre ∧ (∀ d, d ∈ preds ops i → d ∈ pre) ∧
    ∀ p, p ∈ pre → p ∈ anc i ∨ (freeAt P esc ops p = true ∧ apartAt ops p i = true) ∨ freeAt P esc ops p = false := by
  unfold okAt at h
  split at h
  · rename_i h1
    split at h
    · cases h
    · rename_i h2
      split at h
      · rename_i h3
        refine ⟨by have := Nat.le_of_ble_eq_true h1; simp only [Array.length_toList] at this; omega, memN_false.1 h2, fun d hd => memN_iff.1 (allN_iff.1 h3 d hd), fun p hp => ?_⟩
        have := allN_iff.1 h p hp
        unfold condAt at this
        split at this
        · rename_i h4; exact .inl (memN_iff.1 h4)
        · split at this
          · rename_i h5
            exact .inr (.inl ⟨h5, this⟩)
          · rename_i h5
            exact .inr (.inr h5)
      · cases h
  · cases h

theorem cover_spec {pre H : List Nat} (h : cover ops anc pre H = true) {y : Nat} (hy : y < ops.size) (hp : y ∉ pre) : y ∈ H ∨ ∃ k, k ∈ H ∧ k ∈ anc y := by
  have := allN_iff.1 h y (mem_upTo.2 (by simpa using hy))
  simp only [memN_false.2 hp] at this
  split at this
  · rename_i h1; exact .inl (memN_iff.1 h1)
  · obtain ⟨k, h1, h2⟩ := anyN_iff.1 this
    exact .inr ⟨k, h1, memN_iff.1 h2⟩

/-- No free one stands at the head. -/
def hard : DT → Prop
  | .step i _ => freeAt P esc ops i = false
  | _ => True

theorem okT_both {cov : Bool} {pre : List Nat} {a b : DT} (h : okT P esc ops anc cov pre (.both a b) = true) : (cov = true → cover ops anc pre (a.heads ++ b.heads) = true) ∧ okT P esc ops anc false pre a = true ∧ okT P esc ops anc false pre b = true := by
  simp only [okT] at h
  split at h
  · rename_i h1
    split at h
    · rename_i h2
      refine ⟨fun hc => ?_, h2, h⟩
      subst hc; exact h1
    · cases h
  · cases h
theorem okT_step {cov : Bool} {pre : List Nat} {i : Nat} {t : DT} (h : okT P esc ops anc cov pre (.step i t) = true) : okAt P esc ops anc pre i = true ∧ okT P esc ops anc true (i :: pre) t = true ∧
    (freeAt P esc ops i = true ∧ cov = true ∨ freeAt P esc ops i = false ∧ (cov = true → cover ops anc pre [i] = true)) := by
  simp only [okT] at h
  split at h
  · rename_i h1
    split at h
    · rename_i h2
      split at h
      · exact ⟨h1, h, .inl ⟨h2, rfl⟩⟩
      · cases h
    · rename_i h2
      split at h
      · split at h
        · rename_i h3; exact ⟨h1, h, .inr ⟨h2, fun _ => h3⟩⟩
        · cases h
      · exact ⟨h1, h, .inr ⟨h2, nofun⟩⟩
  · cases h

/-- One of the heads is chosen. -/
theorem pick_head {K : St → Vw → Prop} {pre : List Nat} {wl : List (Nat × TV)} {j : Nat} : ∀ {t : DT} {cov : Bool}, okT P esc ops anc cov pre t = true → denL P esc ops anc w0 call pre t wl gk st σ K → j ∈ t.heads →
    ∃ t', okAt P esc ops anc pre j = true ∧ okT P esc ops anc true (j :: pre) t' = true ∧ denL P esc ops anc w0 call pre (.step j t') wl gk st σ K ∧ t'.depth + 1 ≤ t.depth ∧ (cov = false → freeAt P esc ops j = false)
  | .done, _, _, _, h => nomatch h
  | .step i t, cov, hk, hd, h => by
    obtain rfl := List.mem_singleton.1 h
    obtain ⟨h1, h2, h3⟩ := okT_step hk
    refine ⟨t, h1, h2, hd, Nat.le_refl _, fun hc => ?_⟩
    rcases h3 with ⟨_, h4⟩ | ⟨h4, _⟩
    · rw [hc] at h4; cases h4
    · exact h4
  | .both a b, cov, hk, hd, h => by
    obtain ⟨_, h2, h3⟩ := okT_both hk
    simp only [denL] at hd
    rcases List.mem_append.1 h with h | h
    · obtain ⟨t', g1, g2, g3, g4, g5⟩ := pick_head h2 hd.1 h
      exact ⟨t', g1, g2, g3, Nat.le_trans g4 (Nat.le_max_left _ _), fun _ => g5 rfl⟩
    · obtain ⟨t', g1, g2, g3, g4, g5⟩ := pick_head h3 hd.2 h
      exact ⟨t', g1, g2, g3, Nat.le_trans g4 (Nat.le_max_right _ _), fun _ => g5 rfl⟩

theorem okT_cover {pre : List Nat} {t : DT} (h : okT P esc ops anc true pre t = true) (hh : hard (P := P) (esc := esc) (ops := ops) t) {y : Nat} (hy : y < ops.size) (hp : y ∉ pre) : y ∈ t.heads ∨ ∃ k, k ∈ t.heads ∧ k ∈ anc y := by
  cases t with
  | done =>
    simp only [okT] at h
    exact absurd (memN_iff.1 (allN_iff.1 h y (mem_upTo.2 (by simpa using hy)))) hp
  | step i t =>
    obtain ⟨_, _, h3⟩ := okT_step h
    rcases h3 with ⟨h4, _⟩ | ⟨_, h4⟩
    · have h5 : freeAt P esc ops i = false := hh
      rw [h4] at h5; cases h5
    · exact cover_spec (h4 rfl) hy hp
  | both a b => exact cover_spec ((okT_both h).1 rfl) hy hp

theorem heads_ne {pre : List Nat} : ∀ {t : DT} {cov : Bool}, okT P esc ops anc cov pre t = true → t ≠ .done → t.heads ≠ []
  | .done, _, _, h => absurd rfl h
  | .step i t, _, _, _ => by simp [DT.heads]
  | .both a b, cov, hk, _ => by
    obtain ⟨_, h2, _⟩ := okT_both hk
    have : a.heads ≠ [] := heads_ne h2 fun e => by subst e; simp [okT] at h2
    simp [DT.heads, this]

/-- What 'drawOk' has shown. -/
structure DrawOk (P : Program) (esc : Nat → Bool) (ops : Array Oper) (anc : Nat → List Nat) (t : DT) : Prop where
  tree : okT P esc ops anc true [] t = true
  anc : ∀ q, q < ops.size → ∀ p, p ∈ anc q → p ∈ preds ops q ∨ ∃ d, d ∈ preds ops q ∧ p ∈ anc d
  pre : ∀ q, q < ops.size → ∀ d, d ∈ preds ops q → d ≠ q ∧ d < ops.size

theorem drawOk_spec {t : DT} (h : drawOk P esc ops anc t = true) : DrawOk P esc ops anc t := by
  unfold drawOk at h
  split at h
  · rename_i h1
    split at h
    · rename_i h2
      have h3 := h
      simp only [Array.length_toList] at h2 h3
      refine ⟨h1, fun q hq p hp => ?_, fun q hq d hd => ?_⟩
      · have := allN_iff.1 (allN_iff.1 h2 q (mem_upTo.2 hq)) p hp
        split at this
        · rename_i h6; exact .inl (memN_iff.1 h6)
        · obtain ⟨d, h7, h8⟩ := anyN_iff.1 this
          exact .inr ⟨d, h7, memN_iff.1 h8⟩
      · have := allN_iff.1 (allN_iff.1 h3 q (mem_upTo.2 hq)) d hd
        split at this
        · cases this
        · rename_i h6
          refine ⟨fun e => (by rw [e, Nat.beq_refl] at h6; cases h6), ?_⟩
          have h7 := Nat.le_of_ble_eq_true this
          simp only [Array.length_toList] at h7
          omega
    · cases h
  · cases h

/-- One step, its guard known. -/
theorem denG_step {o : Oper} (hg : GkOk gk st) {K : List (Nat × Bool) → St → Vw → Prop} (h : denG P w0 call ops.toList esc gk o st σ K) :
    ∃ go gk', GoAt ops.toList o st go ∧ GkOk gk' st ∧ freeSlot gk' o.dst = true ∧ (go = true → denOp P w0 call esc [] o.dst o.op st σ fun x e σ' => K gk' (putT (st.eff e) o.dst x) σ') ∧ (go = false → K gk' (putT st o.dst .und) σ) := by
  have run : ∀ {gk' : List (Nat × Bool)} {b : Bool}, GkOk gk' st → runG P w0 call esc gk' o b st σ (K gk') → (b = true → denOp P w0 call esc [] o.dst o.op st σ fun x e σ' => K gk' (putT (st.eff e) o.dst x) σ') ∧ (b = false → K gk' (putT st o.dst .und) σ) := by
    intro gk' b hg' h
    cases b with
    | true => exact ⟨fun _ => denOp_gk hg' (by simpa only [runG, putK_eq] using h), nofun⟩
    | false => exact ⟨nofun, fun _ => by simpa only [runG, putK_eq, St.eff] using h⟩
  unfold denG at h
  split at h
  · exact h.elim
  · rename_i hfr
    split at h
    · rename_i hgd
      exact ⟨true, gk, .inl ⟨hgd, rfl⟩, hg, hfr, run hg h⟩
    · rename_i g want hgd
      split at h
      · exact h.elim
      · rename_i t ht
        split at h
        · exact h.elim
        · rename_i hft
          split at h
          · rename_i b hb
            exact ⟨agree b want, gk, .inr (.inl ⟨g, want, t, b, hgd, ht, known_val hg hb, rfl⟩), hg, hfr, run hg h⟩
          · split at h
            · rename_i v hb
              obtain ⟨b, rfl, h1, h2⟩ := h
              have hv : toV (st.tmps.getD t .unk) = some (.bool b) := by rw [hb]; rfl
              cases b with
              | true => exact ⟨agree true want, _, .inr (.inl ⟨g, want, t, true, hgd, ht, hv, rfl⟩), hg.cons hv, freeSlot_cons hfr hft, run (hg.cons hv) (h1 rfl)⟩
              | false => exact ⟨agree false want, _, .inr (.inl ⟨g, want, t, false, hgd, ht, hv, rfl⟩), hg.cons hv, freeSlot_cons hfr hft, run (hg.cons hv) (h2 rfl)⟩
            · rename_i hb
              exact ⟨false, gk, .inr (.inr ⟨g, want, t, hgd, ht, hb, rfl⟩), hg, hfr, run hg h⟩
            · exact h.elim

/-- Which have been run. -/
structure Dyn (ops : Array Oper) (anc : Nat → List Nat) (pend : List PE) (pre : List Nat) (listed : Array Bool) : Prop where
  size : listed.size = ops.size
  bit : ∀ j, j < ops.size → (listed.getD j true = false ↔ (j ∈ pend.map (·.i) ∨ j ∉ pre))
  closed : ∀ q, q < ops.size → listed.getD q true = true → ∀ p, p ∈ anc q → listed.getD p true = true

/-- What is still to be run: what has been reckoned out, and the rest. -/
structure Abs (P : Program) (w0 : World) (call : FuncId → List Value → Vw → (Value → Vw → Prop) → Prop) (esc : Nat → Bool) (ops : Array Oper) (anc : Nat → List Nat) (K : St → Vw → Prop) (pend : List PE) (pre : List Nat) (t : DT) (st : St) (σ : Vw) : Prop where
  ok : ∀ p, p ∈ pend → ops[p.i]? = some p.o ∧ isFree P esc p.o.dst p.o.op = true
  facts : Facts P w0 call esc ops pend st σ
  den : ∃ gk wl, GkOk gk (appL pend st) ∧ (∀ p, p ∈ pend → lookTV wl p.i = p.ad) ∧ denL P esc ops anc w0 call pre t wl gk (appL pend st) σ K
  tree : okT P esc ops anc true pre t = true
  pin : ∀ p, p ∈ pend → p.i ∈ pre ∧ ∀ d, d ∈ preds ops p.i → d ∈ pre
  pair : pend.Pairwise fun x y => x.i ≠ y.i ∧ y.i ∉ preds ops x.i ∧ (x.i ∈ anc y.i ∨ x.o.apart ops y.o = true)

theorem Abs.push {K : St → Vw → Prop} {listed : Array Bool} : ∀ {t : DT} {pend : List PE} {pre : List Nat}, Abs P w0 call esc ops anc K pend pre t st σ → Dyn ops anc pend pre listed →
    ∃ pend' pre' t', Abs P w0 call esc ops anc K pend' pre' t' st σ ∧ Dyn ops anc pend' pre' listed ∧ pend'.length + t'.depth ≤ pend.length + t.depth ∧ hard (P := P) (esc := esc) (ops := ops) t'
  | .done, pend, pre, h, hd => ⟨pend, pre, _, h, hd, Nat.le_refl _, trivial⟩
  | .both a b, pend, pre, h, hd => ⟨pend, pre, _, h, hd, Nat.le_refl _, trivial⟩
  | .step q r, pend, pre, h, hdy => by
    cases hq : freeAt P esc ops q with
    | false => exact ⟨pend, pre, _, h, hdy, Nat.le_refl _, hq⟩
    | true =>
      obtain ⟨gk, wl, hg, hwl, hd⟩ := h.den
      obtain ⟨hat, htree, _⟩ := okT_step h.tree
      obtain ⟨hlt, hnp, hpre, hcond⟩ := okAt_spec hat
      simp only [denL] at hd
      split at hd
      · exact hd.elim
      · rename_i o ho
        have hfree : isFree P esc o.dst o.op = true := by simpa [freeAt, ho] using hq
        rw [hfree] at hd
        simp only [tvK_eq] at hd
        obtain ⟨go, gk', h1, h2, h3, h4, h5⟩ := denG_step hg hd
        have ho' : ops[q]? = some o := by rw [← Array.getElem?_toList]; exact ho
        have fin : ∀ x e, Fact P w0 call esc ops ⟨q, o, x, e, adOf o.op (appL pend st)⟩ (appL pend st) σ → denL P esc ops anc w0 call (q :: pre) r ((q, adOf o.op (appL pend st)) :: wl) gk' (putT ((appL pend st).eff e) o.dst x) σ K →
            ∃ pend' pre' t', Abs P w0 call esc ops anc K pend' pre' t' st σ ∧ Dyn ops anc pend' pre' listed ∧ pend'.length + t'.depth ≤ pend.length + (DT.step q r).depth ∧ hard (P := P) (esc := esc) (ops := ops) t' := by
          intro x e hf hden
          have happ : appL (pend ++ [⟨q, o, x, e, adOf o.op (appL pend st)⟩]) st = putT ((appL pend st).eff e) o.dst x := by rw [appL_append]; rfl
          have hdy' : Dyn ops anc (pend ++ [⟨q, o, x, e, adOf o.op (appL pend st)⟩]) (q :: pre) listed := by
            refine ⟨hdy.size, fun j hj => ?_, hdy.closed⟩
            rw [hdy.bit j hj]
            simp only [List.map_append, List.map_cons, List.map_nil, List.mem_append, List.mem_cons, List.not_mem_nil, or_false, not_or]
            constructor
            · rintro (h' | h')
              · exact .inl (.inl h')
              · by_cases e : j = q
                · exact .inl (.inr e)
                · exact .inr ⟨e, h'⟩
            · rintro ((h' | h') | ⟨_, h'⟩)
              · exact .inl h'
              · rw [h']; exact .inr hnp
              · exact .inr h'
          have hab : Abs P w0 call esc ops anc K (pend ++ [⟨q, o, x, e, adOf o.op (appL pend st)⟩]) (q :: pre) r st σ := by
            refine ⟨fun p hp => ?_, Facts.append.2 ⟨h.facts, hf, trivial⟩, ⟨gk', (q, adOf o.op (appL pend st)) :: wl, ?_, fun p hp => ?_, ?_⟩, htree, fun p hp => ?_, ?_⟩
            · rcases List.mem_append.1 hp with hp | hp
              · exact h.ok p hp
              · rw [List.mem_singleton.1 hp]; exact ⟨ho', hfree⟩
            · rw [happ]; exact h2.put h3
            · rcases List.mem_append.1 hp with hp | hp
              · have hne : q ≠ p.i := fun e => hnp (e ▸ (h.pin p hp).1)
                have hb : Nat.beq q p.i = false := by
                  cases hc : Nat.beq q p.i with
                  | false => rfl
                  | true => exact absurd (Nat.eq_of_beq_eq_true hc) hne
                simp only [lookTV, hb, cond_false]
                exact hwl p hp
              · rw [List.mem_singleton.1 hp]
                simp [lookTV]
            · rw [happ]; exact hden
            · rcases List.mem_append.1 hp with hp | hp
              · exact ⟨List.mem_cons_of_mem _ (h.pin p hp).1, fun d hd => List.mem_cons_of_mem _ ((h.pin p hp).2 d hd)⟩
              · rw [List.mem_singleton.1 hp]; exact ⟨List.mem_cons_self, fun d hd => List.mem_cons_of_mem _ (hpre d hd)⟩
            · refine List.pairwise_append.2 ⟨h.pair, by simp, fun a ha b hb => ?_⟩
              rw [List.mem_singleton.1 hb]
              refine ⟨fun e => hnp ((show a.i = q from e) ▸ (h.pin a ha).1), fun hm => hnp ((h.pin a ha).2 q hm), ?_⟩
              have hfa : freeAt P esc ops a.i = true := by
                have h1 := h.ok a ha
                have h2 : ops.toList[a.i]? = some a.o := by rw [Array.getElem?_toList]; exact h1.1
                simp [freeAt, h2, h1.2]
              rcases hcond a.i (h.pin a ha).1 with h' | ⟨_, h'⟩ | h'
              · exact .inl h'
              · refine .inr ?_
                have h1 := h.ok a ha
                simp only [apartAt, Array.getElem?_toList, h1.1, ho'] at h'
                exact h'
              · rw [hfa] at h'; cases h'
          obtain ⟨pend', pre', t', g1, g2, g3, g4⟩ := Abs.push hab hdy'
          refine ⟨pend', pre', t', g1, g2, ?_, g4⟩
          simp only [List.length_append, List.length_singleton, DT.depth] at g3 ⊢
          omega
        cases go with
        | true =>
          obtain ⟨x, e, q1, q2, q3, q4⟩ := free_one hfree (h4 rfl)
          exact fin x e ⟨q3, q4, ⟨true, h1, fun _ => q2, nofun⟩, rfl⟩ q1
        | false => exact fin .und none ⟨fun _ _ h => (nomatch h), fun _ h => (nomatch h), ⟨false, h1, nofun, fun _ => ⟨rfl, rfl⟩⟩, rfl⟩ (h5 rfl)
end
end Go.Av

/- The abstract layer, draws, part 5: a drawn region does what 'denD' says. -/
set_option linter.unusedVariables false
set_option linter.unusedSimpArgs false
namespace Go.Av
open Go Go.RowKit

section
variable {P : Program} {w0 : World} {σe : Vw} {we : World} {fz : Nat} {β : Nat → Nat} {esc : Nat → Bool} {ops : Array Oper} {anc : Nat → List Nat} {call : FuncId → List Value → Vw → (Value → Vw → Prop) → Prop} {st : St} {σ σ' : Vw} {a : Act} {w : World}

theorem Sim.lpOk (h : Sim w0 σe we fz β st σ a w) : LpOk st := by
  intro y k hk
  have := h.ev y
  cases hx : Av.ev st y with
  | lp k' j => rw [hx] at this hk; cases hk; exact this.1
  | ls k' j => rw [hx] at this hk; cases hk; exact this.1
  | _ => rw [hx] at hk; cases hk

theorem appL_agree {o : Oper} : ∀ {l : List PE} {st : St}, (∀ p, p ∈ l → p.o.apart ops o = true) → Facts P w0 call esc ops l st σ →
    (∀ t, t ∈ o.looksAt ops → ev (appL l st) (.tmp t) = ev st (.tmp t)) ∧ (∀ k, st.bx k ≠ none → (appL l st).bx k = st.bx k)
  | [], st, _, _ => ⟨fun _ _ => rfl, fun _ _ => rfl⟩
  | p :: r, st, hap, hf => by
    obtain ⟨h1, h2⟩ := appL_agree (l := r) (fun q hq => hap q (List.mem_cons_of_mem _ hq)) hf.2
    obtain ⟨g1, g2, g3⟩ := Oper.apart_spec (hap p List.mem_cons_self)
    refine ⟨fun t ht => (h1 t ht).trans ?_, fun k hk => (h2 k ?_).trans (bx_app_ne hf.1.eff hk)⟩
    · unfold PE.app
      rw [ev_putT (fun d hd e => g1 d hd (by cases e; exact ht)), ev_eff]
    · rw [bx_app_ne hf.1.eff hk]; exact hk

theorem facts_after {o : Oper} {x : TV} {e : Eff} : ∀ {l : List PE} {st : St}, (∀ p, p ∈ l → p.o.apart ops o = true ∧ isFree P esc p.o.dst p.o.op = true ∧ Seen w0 σ σ' (seen P p.o.op p.ad) ∧ ∀ k cs, e = some (k, cs) → ∀ T y, p.o.op = .load T y → ∀ j, p.ad ≠ .lp k j) →
    (∀ k cs, e = some (k, cs) → st.bx k ≠ none) → Facts P w0 call esc ops l st σ → Facts P w0 call esc ops l (putT (st.eff e) o.dst x) σ' ∧ appL l (putT (st.eff e) o.dst x) = putT ((appL l st).eff e) o.dst x
  | [], st, _, _, _ => ⟨trivial, rfl⟩
  | p :: r, st, hap, hk, hf => by
    obtain ⟨h1, h2⟩ := facts_after (l := r) (st := p.app st) (x := x) (fun q hq => hap q (List.mem_cons_of_mem _ hq)) (fun k cs he => by rw [bx_app_ne hf.1.eff (hk k cs he)]; exact hk k cs he) hf.2
    obtain ⟨ha, hfree, hseen, hbox⟩ := hap p List.mem_cons_self
    obtain ⟨g1, g2, g3⟩ := Oper.apart_spec ha
    have hc : putT ((p.app st).eff e) o.dst x = p.app (putT (st.eff e) o.dst x) :=
      app_comm' (p := p) (q := ⟨0, o, x, e, .unk⟩) ha (fun k cs k' cs' he he' heq => hk k' cs' he' (heq ▸ (hf.1.eff k cs he).2))
    refine ⟨⟨?_, by rw [← hc]; exact h1⟩, by show appL r (p.app (putT (st.eff e) o.dst x)) = _; rw [← hc]; exact h2⟩
    have hb : Fact P w0 call esc ops p (st.eff e) σ := by
      cases e with
      | none => exact hf.1
      | some kc =>
        obtain ⟨k, cs⟩ := kc
        exact hf.1.bx hfree (hk k cs rfl) (hbox k cs rfl)
    refine Fact.stay hfree (hb.congr (fun t ht => ?_) (fun y hy k hk => by rw [bx_putT]) (fun k hk hn => by rw [bx_putT]; exact hn)) hseen
    rw [ev_putT (fun d hd e => g3 d hd (by cases e; exact ht))]

def ownCase : Option Nat → Prop → Prop → Prop
  | some _, _, D => D
  | none, S, _ => S

theorem mem_waits {wl : List (Nat × TV)} {j p : Nat} {o : Oper} (ha : p ∉ anc j) (hf : freeAt P esc ops p = true) (ho : ops.toList[p]? = some o) : ∀ {pre : List Nat}, p ∈ pre → (o.op, lookTV wl p) ∈ waits P esc ops anc wl j pre
  | [], h => nomatch h
  | q :: r, h => by
    by_cases e : p = q
    · subst e
      simp only [waits, memN_false.2 ha, hf, ho]
      exact List.mem_cons_self
    · have h' : p ∈ r := (List.mem_cons.1 h).resolve_left e
      have := mem_waits ha hf ho (wl := wl) h'
      simp only [waits]
      split
      · exact this
      · split
        · split
          · exact List.mem_cons_of_mem _ this
          · exact this
        · exact this

theorem boxOk_spec {k : Nat} : ∀ {l : List (Op × TV)}, boxOk k l = true → ∀ T y j, (Op.load T y, TV.lp k j) ∉ l
  | [], _, _, _, _, h => nomatch h
  | (op, ad) :: r, hb, T, y, j, h => by
    rcases List.mem_cons.1 h with e | e
    · cases e
      simp [boxOk] at hb
    · refine boxOk_spec (l := r) ?_ T y j e
      simp only [boxOk] at hb
      split at hb
      · split at hb
        · rename_i k' _
          cases hc : Nat.beq k k' with
          | true => rw [hc] at hb; cases hb
          | false => rw [hc] at hb; exact hb
        · exact hb
      · exact hb

theorem stayK_spec {A : Prop} : ∀ {l : List (Op × TV)}, stayK P w0 σ σ' l A → A ∧ ∀ s, s ∈ l → Seen w0 σ σ' (seen P s.1 s.2)
  | [], h => ⟨h, fun _ h => nomatch h⟩
  | (op, ad) :: r, h => by
    simp only [stayK] at h
    cases hs : seen P op ad with
    | no =>
      rw [hs] at h
      obtain ⟨h1, h2⟩ := stayK_spec (l := r) h
      refine ⟨h1, fun s hm => ?_⟩
      rcases List.mem_cons.1 hm with e | e
      · subst e
        simp only
        rw [hs]
        trivial
      · exact h2 s e
    | cell n v =>
      rw [hs] at h
      obtain ⟨h1, h2⟩ := stayK_spec (l := r) h.2
      refine ⟨h1, fun s hm => ?_⟩
      rcases List.mem_cons.1 hm with e | e
      · subst e
        simp only
        rw [hs]
        exact h.1
      · exact h2 s e
    | all =>
      rw [hs] at h
      obtain ⟨h1, h2⟩ := stayK_spec (l := r) h.2
      refine ⟨h1, fun s hm => ?_⟩
      rcases List.mem_cons.1 hm with e | e
      · subst e
        simp only
        rw [hs]
        exact h.1
      · exact h2 s e

theorem wanted_of {o : Oper} {go : Bool} (hs : Sim w0 σe we fz β st σ a w) (h : GoAt ops.toList o st go) : Region.wanted o (yielded ops a.tmps) = go := by
  rcases h with ⟨h1, rfl⟩ | ⟨g, want, t, c, h1, h2, h3, rfl⟩ | ⟨g, want, t, h1, h2, h3, rfl⟩
  · simp [Region.wanted, h1]
  · rw [agree_eq]
    have hx' : a.tmps.getD t undef = .bool c := hs.toV (x := .tmp t) h3
    simp only [Region.wanted, h1, yield_of h2 hx']
  · have hx' : a.tmps.getD t undef = undef := by
      have := hs.tm t
      rw [show st.tmps.getD t .unk = .und from h3] at this; exact this
    simp only [Region.wanted, h1, yield_none h2 hx']
    cases want <;> rfl

theorem preds_of {j : Nat} {o : Oper} (ho : ops[j]? = some o) : preds ops j = predsO o := by
  have : ops.toList[j]? = some o := by rw [Array.getElem?_toList]; exact ho
  simp [preds, this]

theorem mem_predsO {o : Oper} {d : Nat} : d ∈ predsO o ↔ ∃ e, e ∈ o.after ∧ Region.binds .any e = true ∧ e.on = d := by
  simp only [predsO, List.mem_map, List.mem_filter, Array.mem_toList_iff]
  constructor
  · rintro ⟨e, ⟨h1, h2⟩, h3⟩; exact ⟨e, h1, h2, h3⟩
  · rintro ⟨e, h1, h2, h3⟩; exact ⟨e, ⟨h1, h2⟩, h3⟩

theorem getD_flip {listed : Array Bool} {d : Nat} (h : d < listed.size) : listed.getD d false = listed.getD d true := by
  simp [Array.getD_eq_getD_getElem?, Array.getElem?_eq_getElem h]

theorem Dyn.ready {t : DT} {pend : List PE} {pre : List Nat} {listed : Array Bool} (hd : Dyn ops anc pend pre listed) (hk : DrawOk P esc ops anc t) {j : Nat} :
    j ∈ Region.ready .any ops listed ↔ j < ops.size ∧ listed.getD j true = false ∧ ∀ d, d ∈ preds ops j → listed.getD d true = true := by
  rw [mem_ready]
  constructor
  · rintro ⟨h1, o, ho, h2⟩
    have hj : j < ops.size := (Array.getElem?_eq_some_iff.1 ho).1
    refine ⟨hj, h1, fun d hdp => ?_⟩
    have hlt := (hk.pre j hj d hdp).2
    rw [preds_of ho] at hdp
    obtain ⟨e, h3, h4, rfl⟩ := mem_predsO.1 hdp
    rw [← getD_flip (by rw [hd.size]; exact hlt)]
    exact h2 e h3 h4
  · rintro ⟨hj, h1, h2⟩
    have ho : ops[j]? = some ops[j] := Array.getElem?_eq_getElem hj
    refine ⟨h1, _, ho, fun e he hb => ?_⟩
    have hdp : e.on ∈ preds ops j := by rw [preds_of ho]; exact mem_predsO.2 ⟨e, he, hb, rfl⟩
    have hlt := (hk.pre j hj _ hdp).2
    rw [getD_flip (by rw [hd.size]; exact hlt)]
    exact h2 _ hdp

/-- Whatever must stand ahead of one that is ready has been run. -/
theorem Dyn.anc_done {t : DT} {pend : List PE} {pre : List Nat} {listed : Array Bool} (hd : Dyn ops anc pend pre listed) (hk : DrawOk P esc ops anc t) {j : Nat} (hj : j ∈ Region.ready .any ops listed) {p : Nat} (hp : p ∈ anc j) : listed.getD p true = true := by
  obtain ⟨hlt, h1, h2⟩ := (hd.ready hk).1 hj
  rcases hk.anc j hlt p hp with h3 | ⟨d, h3, h4⟩
  · exact h2 p h3
  · exact hd.closed d (hk.pre j hlt d h3).2 (h2 d h3) p h4

theorem Dyn.step {t : DT} {pend pend' : List PE} {pre pre' : List Nat} {listed : Array Bool} {j : Nat} (hd : Dyn ops anc pend pre listed) (hk : DrawOk P esc ops anc t) (hj : j ∈ Region.ready .any ops listed)
    (hno : ¬ (j ∈ pend'.map (·.i) ∨ j ∉ pre')) (hsame : ∀ i, i ≠ j → ((i ∈ pend'.map (·.i) ∨ i ∉ pre') ↔ (i ∈ pend.map (·.i) ∨ i ∉ pre))) : Dyn ops anc pend' pre' (listed.setIfInBounds j true) := by
  obtain ⟨hjlt, _, _⟩ := (hd.ready hk).1 hj
  have hself : (listed.setIfInBounds j true).getD j true = true := by
    simp [Array.getD_eq_getD_getElem?, Array.getElem?_setIfInBounds, hd.size, hjlt]
  have hmono : ∀ p, listed.getD p true = true → (listed.setIfInBounds j true).getD p true = true := fun p hp => by
    by_cases e : j = p
    · rw [← e]; exact hself
    · rw [getD_set_ne true e]; exact hp
  refine ⟨by simp [hd.size], fun i hi => ?_, fun q hq hqd p hp => ?_⟩
  · by_cases e : j = i
    · subst e
      rw [hself]
      exact ⟨fun h => (nomatch h), fun h => absurd h hno⟩
    · rw [getD_set_ne true e, hd.bit i hi]
      exact (hsame i fun h => e h.symm).symm
  · by_cases e : j = q
    · subst e
      exact hmono p (hd.anc_done hk hj hp)
    · rw [getD_set_ne true e] at hqd
      exact hmono p (hd.closed q hq hqd p hp)

theorem gk_nil {st : St} : GkOk [] st := fun _ _ h => nomatch h

theorem free_of {p : Nat} {o : Oper} (ho : ops[p]? = some o) : freeAt P esc ops p = isFree P esc o.dst o.op := by
  have : ops.toList[p]? = some o := by rw [Array.getElem?_toList]; exact ho
  simp [freeAt, this]

theorem nodup_len : ∀ (n : Nat) (l : List Nat), l.Nodup → (∀ i, i ∈ l → i < n) → l.length ≤ n
  | 0, l, _, h => by
    cases l with
    | nil => simp
    | cons a r => exact absurd (h a List.mem_cons_self) (by omega)
  | n + 1, l, hn, h => by
    have h1 := nodup_len n (l.erase n) (hn.erase n) fun i hi => by
      have := hn.mem_erase_iff.1 hi
      have := h i this.2
      omega
    have h2 : l.length ≤ (l.erase n).length + 1 := by
      rw [List.length_erase]
      split <;> omega
    omega
theorem okT_len {pre : List Nat} (hnd : pre.Nodup) (hlt : ∀ i, i ∈ pre → i < ops.size) : ∀ {t : DT} {cov : Bool}, okT P esc ops anc cov pre t = true → pre.length + t.depth ≤ ops.size := by
  intro t
  induction t generalizing pre with
  | done =>
    intro cov h
    have := nodup_len ops.size pre hnd hlt
    simpa [DT.depth] using this
  | step i t ih =>
    intro cov h
    obtain ⟨h1, h2, _⟩ := okT_step h
    obtain ⟨g1, g2, _, _⟩ := okAt_spec h1
    have := ih (pre := i :: pre) (List.nodup_cons.2 ⟨g2, hnd⟩) (fun k hk => by
      rcases List.mem_cons.1 hk with e | e
      · rw [e]; exact g1
      · exact hlt k e) h2
    simp only [List.length_cons, DT.depth] at this ⊢
    omega
  | both a b iha ihb =>
    intro cov h
    obtain ⟨_, h2, h3⟩ := okT_both h
    have h4 := iha hnd hlt h2
    have h5 := ihb hnd hlt h3
    have : (DT.both a b).depth = Nat.max a.depth b.depth := rfl
    rw [this]
    show pre.length + max a.depth b.depth ≤ ops.size
    omega
theorem okT_depth {t : DT} (h : okT P esc ops anc true [] t = true) : t.depth ≤ ops.size := by simpa using okT_len (pre := []) List.nodup_nil (fun _ h => (nomatch h)) h

theorem draw_main {t0 : DT} (hk : DrawOk P esc ops anc t0) {Q : Exit → Act → World → Prop} {K : St → Vw → Prop} (hn : ∀ β st σ a w, K st σ → Sim w0 σe we fz β st σ a w → Q .normal a w) :
    ∀ (fuel : Nat) (t : DT) (pend : List PE) (pre : List Nat) (listed : Array Bool) (β : Nat → Nat) (st : St) (σ : Vw) (a : Act) (w : World), pend.length + t.depth ≤ fuel →
      Dyn ops anc pend pre listed → Abs P w0 (AC P w0) esc ops anc K pend pre t st σ → Sim w0 σe we fz β st σ a w → wpAny P .any ops Q fuel listed a w := by
  have fin : ∀ (t : DT) (pend : List PE) (pre : List Nat) (listed : Array Bool) (β : Nat → Nat) (st : St) (σ : Vw) (a : Act) (w : World),
      Dyn ops anc pend pre listed → Abs P w0 (AC P w0) esc ops anc K pend pre t st σ → hard (P := P) (esc := esc) (ops := ops) t → Sim w0 σe we fz β st σ a w → Region.ready .any ops listed = [] → Q .normal a w := by
    intro t pend pre listed β st σ a w hd ha hh hs hr
    have hpn : pend = [] := by
      cases pend with
      | nil => rfl
      | cons p r =>
        exfalso
        have hpi := ha.pin p List.mem_cons_self
        have ho := (ha.ok p List.mem_cons_self).1
        have hlt : p.i < ops.size := (Array.getElem?_eq_some_iff.1 ho).1
        have : p.i ∈ Region.ready .any ops listed := (hd.ready hk).2 ⟨hlt, (hd.bit _ hlt).2 (.inl (by simp)), fun d hdp => by
          have hpr := hk.pre p.i hlt d hdp
          cases hb : listed.getD d true with
          | true => rfl
          | false =>
            exfalso
            rcases (hd.bit d hpr.2).1 hb with h | h
            · obtain ⟨y, hy, rfl⟩ := List.mem_map.1 h
              rcases List.mem_cons.1 hy with e | e
              · rw [e] at hpr; exact hpr.1 rfl
              · exact ((List.pairwise_cons.1 ha.pair).1 y e).2.1 hdp
            · exact h (hpi.2 d hdp)⟩
        rw [hr] at this
        cases this
    subst hpn
    obtain ⟨gk, wl, hg, hwl, hden⟩ := ha.den
    have htd : t = .done := by
      cases hc : t with
      | done => rfl
      | _ =>
        exfalso
        obtain ⟨h, r, hhd⟩ := List.exists_cons_of_ne_nil (heads_ne ha.tree (fun e => by rw [hc] at e; cases e))
        have hm : h ∈ t.heads := by rw [hhd]; exact List.mem_cons_self
        obtain ⟨t', g1, _, _, _, _⟩ := pick_head ha.tree hden hm
        obtain ⟨hlt, hnp, hpre, _⟩ := okAt_spec g1
        have : h ∈ Region.ready .any ops listed := (hd.ready hk).2 ⟨hlt, (hd.bit _ hlt).2 (.inr hnp), fun d hdp => by
          cases hb : listed.getD d true with
          | true => rfl
          | false =>
            exfalso
            rcases (hd.bit d (hk.pre h hlt d hdp).2).1 hb with h' | h'
            · cases h'
            · exact h' (hpre d hdp)⟩
        rw [hr] at this
        cases this
    subst htd
    exact hn _ _ _ _ _ hden hs
  intro fuel
  induction fuel with
  | zero =>
    intro t pend pre listed β st σ a w hf hd ha hs
    obtain ⟨pend, pre, t, ha, hd, hlen, hh⟩ := ha.push hd
    have hr : Region.ready .any ops listed = [] := by
      cases hc : Region.ready .any ops listed with
      | nil => rfl
      | cons q r =>
        exfalso
        have : q ∈ Region.ready .any ops listed := by rw [hc]; exact List.mem_cons_self
        obtain ⟨hlt, hb, _⟩ := (hd.ready hk).1 this
        have hpn : pend = [] := List.length_eq_zero_iff.1 (by omega)
        have htd : t = .done := by
          cases t with
          | done => rfl
          | step i t => simp only [DT.depth] at hlen; omega
          | both x y =>
            obtain ⟨hh1, r1, hhd⟩ := List.exists_cons_of_ne_nil (heads_ne ha.tree (fun e => by cases e))
            obtain ⟨gk, wl, hg, hwl, hden⟩ := ha.den
            obtain ⟨t', _, _, _, g4, _⟩ := pick_head ha.tree hden (j := hh1) (by rw [hhd]; exact List.mem_cons_self)
            omega
        subst hpn htd
        have ht := ha.tree
        simp only [okT] at ht
        rcases (hd.bit q hlt).1 hb with h | h
        · cases h
        · exact h (memN_iff.1 (allN_iff.1 ht q (mem_upTo.2 (by simpa using hlt))))
    exact ⟨hr, fin t pend pre listed β st σ a w hd ha hh hs hr⟩
  | succ fuel ih =>
    intro t pend pre listed β st σ a w hf hd ha hs
    obtain ⟨pend, pre, t, ha, hd, hlen, hhd⟩ := ha.push hd
    refine ⟨fun hr => fin t pend pre listed β st σ a w hd ha hhd hs hr, fun j hj => ?_⟩
    obtain ⟨hjlt, hjb, hjp⟩ := (hd.ready hk).1 hj
    have hanc : ∀ p, p ∈ anc j → listed.getD p true = true := fun p hp => hd.anc_done hk hj hp
    have hpu : ∀ p, p ∈ pend → listed.getD p.i true = false := fun p hp => (hd.bit _ ((Array.getElem?_eq_some_iff.1 (ha.ok p hp).1).1)).2 (.inl (List.mem_map_of_mem hp))
    have hlp := hs.lpOk
    by_cases hjL : j ∈ pend.map (·.i)
    · -- one that has been reckoned out
      obtain ⟨p, hpm, hpj⟩ := List.mem_map.1 hjL
      obtain ⟨A, B, rfl⟩ := List.append_of_mem hpm
      subst hpj
      obtain ⟨ho, hfree⟩ := ha.ok p hpm
      have hpw := List.pairwise_append.1 ha.pair
      have hpw2 := List.pairwise_cons.1 hpw.2.1
      have hrelA : ∀ x, x ∈ A → Ap ops x p := by
        intro x hx
        rcases (hpw.2.2 x hx p List.mem_cons_self).2.2 with h1 | h1
        · have := hanc _ h1
          rw [hpu x (List.mem_append_left _ hx)] at this
          cases this
        · exact h1
      have hf1 := Facts.append.1 ha.facts
      obtain ⟨q1, q2, q3⟩ := to_front hrelA hlp hf1.1 hf1.2.1
      obtain ⟨go, g1, g2, g3⟩ := q1.go
      have hsub : ∀ x, x ∈ A ++ B → x ∈ A ++ p :: B := fun x hx => by
        rcases List.mem_append.1 hx with h | h
        · exact List.mem_append_left _ h
        · exact List.mem_append_right _ (List.mem_cons_of_mem _ h)
      have hne : ∀ x, x ∈ A ++ B → x.i ≠ p.i := fun x hx => by
        rcases List.mem_append.1 hx with h | h
        · exact (hpw.2.2 x h p List.mem_cons_self).1
        · exact fun e => (hpw2.1 x h).1 e.symm
      have hdyn : Dyn ops anc (A ++ B) pre (listed.setIfInBounds p.i true) := by
        refine hd.step hk hj ?_ fun i hi => ?_
        · rintro (h | h)
          · obtain ⟨x, hx, he⟩ := List.mem_map.1 h
            exact hne x hx he
          · exact h (ha.pin p hpm).1
        · refine or_congr ?_ Iff.rfl
          simp only [List.map_append, List.map_cons, List.mem_append, List.mem_cons, hi, false_or]
      have habs : Abs P w0 (AC P w0) esc ops anc K (A ++ B) pre t (p.app st) σ := by
        have happ : appL (A ++ B) (p.app st) = appL (A ++ p :: B) st := by
          rw [appL_append, appL_append, q3]; rfl
        obtain ⟨gk, wl, hg, hwl, hden⟩ := ha.den
        refine ⟨fun x hx => ha.ok x (hsub x hx), Facts.append.2 ⟨q2, ?_⟩, ⟨gk, wl, ?_, fun x hx => hwl x (hsub x hx), ?_⟩, ha.tree, fun x hx => ha.pin x (hsub x hx), ?_⟩
        · rw [q3]; exact hf1.2.2
        · rw [happ]; exact hg
        · rw [happ]; exact hden
        · exact ha.pair.sublist (List.Sublist.append (List.Sublist.refl A) (List.sublist_cons_self p B))
      have hlen' : (A ++ B).length + t.depth ≤ fuel := by
        simp only [List.length_append, List.length_cons] at hlen ⊢
        omega
      unfold wpOp
      simp only [ho]
      rw [wanted_of hs g1]
      cases go with
      | true =>
        simp only [if_true]
        refine .inl (denOp_sound gk_nil hs (g2 rfl (fun x e s => x = p.x ∧ e = p.e ∧ s = σ) ⟨rfl, rfl, rfl⟩) ?_)
        rintro x e σ' v w' ⟨rfl, rfl, rfl⟩ hout
        obtain ⟨β', hs'⟩ := hout.sim p.o.dst
        exact ih _ _ _ _ _ _ _ _ _ hlen' hdyn habs hs'
      | false =>
        simp only [Bool.false_eq_true, if_false]
        have hx := g3 rfl
        have happ : p.app st = putT st p.o.dst .und := by unfold PE.app; rw [hx.1, hx.2]; rfl
        rw [happ] at habs
        exact ih _ _ _ _ _ _ _ _ _ hlen' hdyn habs (hs.put p.o.dst (x := .und) rfl)
    · -- one of the heads
      have hjpre : j ∉ pre := by
        rcases (hd.bit j hjlt).1 hjb with h | h
        · exact absurd h hjL
        · exact h
      obtain ⟨gk, wl, hg, hwl, hden0⟩ := ha.den
      have hjh : j ∈ t.heads := by
        rcases okT_cover ha.tree hhd hjlt hjpre with h | ⟨k, h1, h2⟩
        · exact h
        · exfalso
          have h3 := hanc k h2
          obtain ⟨t', g1, _⟩ := pick_head ha.tree hden0 h1
          obtain ⟨hlt, hnp, _, _⟩ := okAt_spec g1
          rw [(hd.bit k hlt).2 (.inr hnp)] at h3
          cases h3
      obtain ⟨t', hat, htree, hden, hdep, hnf⟩ := pick_head ha.tree hden0 hjh
      obtain ⟨_, _, hpreds, hcond⟩ := okAt_spec hat
      have hqnf : freeAt P esc ops j = false := by
        cases t with
        | done => cases hjh
        | step i t =>
          have e : j = i := List.mem_singleton.1 hjh
          rw [e]; exact hhd
        | both x y =>
          obtain ⟨_, h2, h3⟩ := okT_both ha.tree
          simp only [denL] at hden0
          rcases List.mem_append.1 hjh with h | h
          · obtain ⟨_, _, _, _, _, g5⟩ := pick_head h2 hden0.1 h
            exact g5 rfl
          · obtain ⟨_, _, _, _, _, g5⟩ := pick_head h3 hden0.2 h
            exact g5 rfl
      have ho : ops[j]? = some ops[j] := Array.getElem?_eq_getElem hjlt
      generalize hoj : ops[j] = o at ho
      have hfree : isFree P esc o.dst o.op = false := by rw [← free_of ho]; exact hqnf
      have hpend : ∀ p, p ∈ pend → p.i ∉ anc j ∧ freeAt P esc ops p.i = true ∧ p.o.apart ops o = true := by
        intro p hp
        have hni : p.i ∉ anc j := fun h => by have := hanc _ h; rw [hpu p hp] at this; cases this
        have hfa : freeAt P esc ops p.i = true := by rw [free_of (ha.ok p hp).1]; exact (ha.ok p hp).2
        rcases hcond p.i (ha.pin p hp).1 with h1 | ⟨_, h3⟩ | h1
        · exact absurd h1 hni
        · refine ⟨hni, hfa, ?_⟩
          have hox := (ha.ok p hp).1
          simp only [apartAt, Array.getElem?_toList, hox, ho] at h3
          exact h3
        · rw [hfa] at h1; cases h1
      have hdyn : Dyn ops anc pend (j :: pre) (listed.setIfInBounds j true) := by
        refine hd.step hk hj ?_ fun i hi => ?_
        · rintro (h | h)
          · exact hjL h
          · exact h List.mem_cons_self
        · refine or_congr Iff.rfl ?_
          simp only [List.mem_cons, not_or, hi, not_false_eq_true, true_and]
      have hlen' : pend.length + t'.depth ≤ fuel := by omega
      have hpin' : ∀ p, p ∈ pend → p.i ∈ j :: pre ∧ ∀ d, d ∈ preds ops p.i → d ∈ j :: pre := fun p hp => ⟨List.mem_cons_of_mem _ (ha.pin p hp).1, fun d hd => List.mem_cons_of_mem _ ((ha.pin p hp).2 d hd)⟩
      have ho' : ops.toList[j]? = some o := by rw [Array.getElem?_toList]; exact ho
      have hmw : ∀ p, p ∈ pend → (p.o.op, p.ad) ∈ waits P esc ops anc wl j pre := fun p hp => by
        have h1 := (ha.ok p hp).1
        have h2 : ops.toList[p.i]? = some p.o := by rw [Array.getElem?_toList]; exact h1
        have := mem_waits (wl := wl) (hpend p hp).1 (hpend p hp).2.1 h2 (ha.pin p hp).1
        rw [hwl p hp] at this
        exact this
      obtain ⟨ag1, ag2⟩ := appL_agree (o := o) (fun p hp => (hpend p hp).2.2) ha.facts
      have hev : ∀ y, y ∈ o.op.operands.toList → ev (appL pend st) y = ev st y := fun y hy => by
        cases y with
        | tmp t => exact ag1 t (looks_op hy)
        | _ => rfl
      have hown : ownStore o.op (appL pend st) = ownStore o.op st := by
        cases hop : o.op with
        | store T x y =>
          have : ev (appL pend st) x = ev st x := hev x (by rw [hop]; simp [Op.operands])
          simp only [ownStore, this]
        | _ => rfl
      -- what is owed for it, and for what waits
      have hden' : ∃ go gk', GoAt ops.toList o (appL pend st) go ∧ GkOk gk' (appL pend st) ∧ freeSlot gk' o.dst = true ∧
          (∀ k, ownStore o.op st = some k → boxOk k (waits P esc ops anc wl j pre) = true) ∧
          (go = true → denOp P w0 (AC P w0) esc [] o.dst o.op (appL pend st) σ fun x e σ' => ownCase (ownStore o.op st) (stayK P w0 σ σ' (waits P esc ops anc wl j pre) (denL P esc ops anc w0 (AC P w0) (j :: pre) t' wl gk' (putT ((appL pend st).eff e) o.dst x) σ' K)) (denL P esc ops anc w0 (AC P w0) (j :: pre) t' wl gk' (putT ((appL pend st).eff e) o.dst x) σ' K)) ∧
          (go = false → denL P esc ops anc w0 (AC P w0) (j :: pre) t' wl gk' (putT (appL pend st) o.dst .und) σ K) := by
        simp only [denL, ho', hfree, hown] at hden
        cases how : ownStore o.op st with
        | some k =>
          rw [how] at hden
          simp only at hden
          split at hden
          · rename_i hbx
            obtain ⟨go, gk', h1, h2, h3, h4, h5⟩ := denG_step hg hden
            refine ⟨go, gk', h1, h2, h3, fun k' hk' => ?_, fun e => ?_, h5⟩
            · cases hk'; exact hbx
            · exact h4 e
          · exact hden.elim
        | none =>
          rw [how] at hden
          simp only at hden
          obtain ⟨go, gk', h1, h2, h3, h4, h5⟩ := denG_step hg hden
          exact ⟨go, gk', h1, h2, h3, (fun _ h => nomatch h), fun e => h4 e, fun e => (stayK_spec (h5 e)).1⟩
      obtain ⟨go, gk', h1, h2, h3, hbo, h4, h5⟩ := hden'
      have hgo : GoAt ops.toList o st go := h1.congr ag1
      unfold wpOp
      simp only [ho]
      rw [wanted_of hs hgo]
      have next : ∀ {x : TV} {e : Eff} {σ' : Vw} {β' : Nat → Nat} {a' : Act} {w' : World}, (∀ p, p ∈ pend → Seen w0 σ σ' (seen P p.o.op p.ad)) → (∀ k cs, e = some (k, cs) → ownStore o.op st = some k ∧ st.bx k ≠ none) →
          denL P esc ops anc w0 (AC P w0) (j :: pre) t' wl gk' (putT ((appL pend st).eff e) o.dst x) σ' K → Sim w0 σe we fz β' (putT (st.eff e) o.dst x) σ' a' w' → wpAny P .any ops Q fuel (listed.setIfInBounds j true) a' w' := by
        intro x e σ' β' a' w' hx he hd' hs'
        obtain ⟨f1, f2⟩ := facts_after (o := o) (x := x) (e := e) (fun p hp => ⟨(hpend p hp).2.2, (ha.ok p hp).2, hx p hp, fun k cs hk T y hop i had => boxOk_spec (hbo k (he k cs hk).1) T y i (by have := hmw p hp; rw [hop, had] at this; exact this)⟩) (fun k cs hk => (he k cs hk).2) ha.facts
        refine ih t' pend (j :: pre) _ _ _ _ _ _ hlen' hdyn ⟨ha.ok, f1, ⟨gk', wl, ?_, hwl, ?_⟩, htree, hpin', ha.pair⟩ hs'
        · rw [f2]; exact h2.put h3
        · rw [f2]; exact hd'
      cases go with
      | false =>
        simp only [Bool.false_eq_true, if_false]
        exact next (e := none) (fun p hp => Seen.refl) (fun _ _ h => nomatch h) (h5 rfl) (hs.put o.dst (x := .und) rfl)
      | true =>
        simp only [if_true]
        have hop := nonfree_eff hfree (denOp_congr (st := appL pend st) (st' := st) ⟨fun y hy => hev y hy, fun y hy k i hk => (ag2 k (hlp y k (by rw [← hev y hy, hk]; rfl))), fun y hy k i hk => (ag2 k (hlp y k (by rw [← hev y hy, hk]; rfl))), fun k hk hn => (by
          cases hc : st.bx k with
          | none => rfl
          | some c => rw [ag2 k (by rw [hc]; simp), hc] at hn; cases hn)⟩ (h4 rfl))
        refine .inl (denOp_sound gk_nil hs hop fun x e σ' v w' hK hout => ?_)
        obtain ⟨heff, hown'⟩ := hK
        obtain ⟨β', hs'⟩ := hout.sim o.dst
        have hd' : denL P esc ops anc w0 (AC P w0) (j :: pre) t' wl gk' (putT ((appL pend st).eff e) o.dst x) σ' K := by
          cases how : ownStore o.op st with
          | some k => rw [how] at hown'; exact hown'
          | none => rw [how] at hown'; exact (stayK_spec hown').1
        refine next (fun p hp => ?_) (fun k cs hk => ?_) hd' hs'
        · rcases heff with ⟨_, hn⟩ | ⟨k, cs, _, _, _, rfl⟩
          · rw [hn] at hown'; exact (stayK_spec hown').2 _ (hmw p hp)
          · exact Seen.refl
        · rcases heff with ⟨h, _⟩ | ⟨k', cs', h, h6, h7, _⟩
          · rw [h] at hk; cases hk
          · rw [h] at hk; cases hk; exact ⟨h6, h7⟩

/-- A drawn region. -/
theorem denD_sound (hm : P.follows .mixedOrders = true) {Q : Exit → Act → World → Prop} {K : St → Vw → Prop} (hn : ∀ β st σ a w, K st σ → Sim w0 σe we fz β st σ a w → Q .normal a w) {id : Nat}
    (hs : Sim w0 σe we fz β st σ a { w with drawn := w.drawn + 1 }) {ord : DT} {t : List (Nat × List Nat)} (h : denD P w0 (AC P w0) esc ord t ops st σ K) : (Code.region id ops true).wp P Q a w := by
  refine wp_region_any hm ?_
  unfold denD at h
  split at h
  · rename_i hok
    have hk := drawOk_spec hok
    have hrep : ∀ j, j < ops.size → (Array.replicate ops.size false).getD j true = false := fun j hj => by
      simp [Array.getD_eq_getD_getElem?, Array.getElem?_replicate, hj]
    have hdep : ord.depth ≤ ops.size := okT_depth hk.tree
    refine draw_main hk hn ops.size ord [] [] _ _ _ _ _ _ (by simpa using hdep) ⟨by simp, fun j hj => ?_, fun q hq hqd => ?_⟩ ⟨fun _ h => (nomatch h), trivial, ⟨[], [], gk_nil, (fun _ h => (nomatch h)), h⟩, hk.tree, fun _ h => (nomatch h), List.Pairwise.nil⟩ hs
    · rw [hrep j hj]
      exact ⟨fun _ => .inr (by simp), fun _ => rfl⟩
    · rw [hrep q hq] at hqd; cases hqd
  · exact h.elim
end
end Go.Av

/- The abstract layer, part 13: code, loops, functions. -/
set_option linter.unusedVariables false
set_option linter.unusedSimpArgs false
namespace Go.Av
open Go Go.RowKit

inductive AX where
  | normal
  | exit (id : Nat)
  | ret

/-- What is kept from round to round: slots, and boxes with their numbers of cells. -/
structure Keep where
  slots : List Nat
  boxes : List (Nat × Nat)
  lps : List Nat := []
  ord : DT := .done
  anc : List (Nat × List Nat) := []

def vget (vs : List Value) (i : Nat) : Value := vs.getD i undef

def slotsFrom (n : Nat) (g : Nat → Value) : List Nat → Nat → List TV
  | [], _ => List.replicate n .unk
  | s :: ss, i => (slotsFrom n g ss (i + 1)).set s (.val (g i))

def boxesFrom (g : Nat → Value) : List (Nat × Nat) → Nat → Nat → Option (List Value)
  | [], _, _ => none
  | (k, m) :: r, i, j => bif Nat.beq k j then some (expl g i m) else boxesFrom g r (i + m) j

def setLps : List Nat → St → St
  | [], st => st
  | k :: r, st => setLps r { st with tmps := st.tmps.set k (.lp k 0) }

def hasB : List (Nat × Nat) → Nat → Bool
  | [], _ => false
  | (k, _) :: r, j => bif Nat.beq k j then true else hasB r j

def keepL (st : St) (bs : List (Nat × Nat)) : List Nat → Bool
  | [] => true
  | k :: r => match st.tmps.getD k .unk with
    | .lp k' 0 => match Nat.beq k k', hasB bs k with
      | true, true => keepL st bs r
      | _, _ => false
    | _ => false

def toSt0 (n : Nat) (kp : Keep) (vs : List Value) : St :=
  ⟨slotsFrom n (vget vs) kp.slots 0, boxesFrom (vget vs) kp.boxes kp.slots.length⟩
def toSt (n : Nat) (kp : Keep) (vs : List Value) : St := setLps kp.lps (toSt0 n kp vs)

def keepS (st : St) : List Nat → Option (List Value)
  | [] => some []
  | s :: ss => match toV (st.tmps.getD s .unk), keepS st ss with
    | some v, some vs => some (v :: vs)
    | _, _ => none

def keepB (st : St) : List (Nat × Nat) → Option (List Value)
  | [] => some []
  | (k, m) :: r => match st.bx k, keepB st r with
    | some cs, some vs => match Nat.beq cs.length m with
      | true => some (cs ++ vs)
      | false => none
    | _, _ => none

def keepV (kp : Keep) (st : St) : Option (List Value) :=
  match keepL st kp.boxes kp.lps with
  | true => match keepS st kp.slots, keepB st kp.boxes with
    | some a, some b => some (a ++ b)
    | _, _ => none
  | false => none

def lpN (B : List Value → (AX → List Value → Vw → Prop) → Vw → Prop) (K : AX → List Value → Vw → Prop) : Nat → List Value → Vw → Prop
  | 0, _, _ => False
  | n + 1, vs, σ => B vs (fun e vs' σ' => match e with | .normal => lpN B K n vs' σ' | .exit i => K (.exit i) vs' σ' | .ret => K .ret vs' σ') σ

/-- A loop: in some number of rounds it is left. -/
def pLoop (B : List Value → (AX → List Value → Vw → Prop) → Vw → Prop) (vs : List Value) (σ : Vw) (K : AX → List Value → Vw → Prop) : Prop := ∃ n, lpN B K n vs σ

def firstReg : Code → Nat
  | .region id _ _ => id
  | .seq a _ => firstReg a
  | .cond _ a _ => firstReg a
  | .block _ a => firstReg a
  | .loop a => firstReg a
  | _ => 0

section
variable (P : Program) (w0 : World)

def den (kp : Nat → Keep) (esc : Nat → Bool) : Code → St → Vw → (AX → St → Vw → Prop) → Prop
  | .skip, st, σ, K => K .normal st σ
  | .ret, st, σ, K => K .ret st σ
  | .exit i, st, σ, K => K (.exit i) st σ
  | .region id ops d, st, σ, K => match d with
    | false => denOps P w0 (AC P w0) ops.toList esc ops.toList [] st σ fun st σ => K .normal st σ
    | true => match P.follows .mixedOrders with
      | true => denD P w0 (AC P w0) esc (kp id).ord (kp id).anc ops st σ fun st σ => K .normal st σ
      | false => False
  | .seq x y, st, σ, K => den kp esc x st σ fun e st σ => match e with
    | .normal => den kp esc y st σ K
    | .exit i => K (.exit i) st σ
    | .ret => K .ret st σ
  | .cond c x y, st, σ, K => match ev st c with
    | .lit true => den kp esc x st σ K
    | .lit false => den kp esc y st σ K
    | .val v => pIf v (den kp esc x st σ K) (den kp esc y st σ K)
    | _ => False
  | .block id c, st, σ, K => den kp esc c st σ fun e st σ => match e with
    | .normal => K .normal st σ
    | .exit i => match Nat.beq i id with
      | true => K .normal st σ
      | false => K (.exit i) st σ
    | .ret => K .ret st σ
  | .loop c, st, σ, K => match keepV (kp (firstReg c)) st with
    | some vs => pLoop (fun vs K σ => den kp esc c (toSt st.tmps.length (kp (firstReg c)) vs) σ fun e st σ => match keepV (kp (firstReg c)) st with
        | some vs => K e vs σ
        | none => False) vs σ fun e vs σ => K e (toSt st.tmps.length (kp (firstReg c)) vs) σ
    | none => False
  | _, _, _, _ => False
end

theorem least {p : Nat → Prop} (h : ∃ n, p n) : ∃ n, p n ∧ ∀ m, p m → n ≤ m := by
  obtain ⟨n, hn⟩ := h
  induction n using Nat.strongRecOn with
  | _ n ih =>
    by_cases hx : ∃ m, m < n ∧ p m
    · obtain ⟨m, h1, h2⟩ := hx
      exact ih m h1 h2
    · exact ⟨n, hn, fun m hm => Nat.le_of_not_lt fun hlt => hx ⟨m, hlt, hm⟩⟩

open Classical in
noncomputable def leastOf (p : Nat → Prop) : Nat := if h : ∃ n, p n then Classical.choose (least h) else 0
theorem leastOf_spec {p : Nat → Prop} (h : ∃ n, p n) : p (leastOf p) ∧ ∀ m, p m → leastOf p ≤ m := by
  unfold leastOf
  rw [dif_pos h]
  exact Classical.choose_spec (least h)

section
variable {P : Program} {w0 : World} {σe : Vw} {we : World} {fz : Nat}

/-- What is owed, in the model's words. -/
def QK (w0 : World) (σe : Vw) (we : World) (fz : Nat) (K : AX → St → Vw → Prop) : Exit → Act → World → Prop
  | .normal, a, w => ∃ β st σ, K .normal st σ ∧ Sim w0 σe we fz β st σ a w
  | .exit i, a, w => ∃ β st σ, K (.exit i) st σ ∧ Sim w0 σe we fz β st σ a w
  | .ret, a, w => ∃ β st σ, K .ret st σ ∧ Sim w0 σe we fz β st σ a w
  | _, _, _ => False

theorem slots_sound {β : Nat → Nat} {st : St} {σ : Vw} {a : Act} {w : World} (hs : Sim w0 σe we fz β st σ a w) (g : Nat → Value) : ∀ (ss : List Nat) (vs : List Value) (i : Nat), keepS st ss = some vs → (∀ j, j < vs.length → g (i + j) = vs.getD j undef) →
    vs.length = ss.length ∧ (slotsFrom st.tmps.length g ss i).length = st.tmps.length ∧ ∀ t bx, VX β bx ((slotsFrom st.tmps.length g ss i).getD t .unk) (a.tmps.getD t undef)
  | [], vs, i, h, hg => by
    cases h
    refine ⟨rfl, by simp [slotsFrom], fun t bx => ?_⟩
    have : (slotsFrom st.tmps.length g [] i).getD t .unk = .unk := by
      simp only [slotsFrom, List.getD_eq_getElem?_getD, List.getElem?_replicate]
      split <;> rfl
    rw [this]
    exact trivial
  | s :: ss, vs, i, h, hg => by
    simp only [keepS] at h
    split at h
    · rename_i v us hv hu
      cases h
      have ih := slots_sound hs g ss us (i + 1) hu (fun j hj => by
        have := hg (j + 1) (by simp; omega)
        rw [show i + (j + 1) = i + 1 + j by omega] at this
        simpa using this)
      have h0 : g i = v := by have := hg 0 (by simp); simpa using this
      refine ⟨by simp [ih.1], by simp [slotsFrom, ih.2.1], fun t bx => ?_⟩
      simp only [slotsFrom]
      by_cases e : s = t
      · subst e
        by_cases hd : s < (slotsFrom st.tmps.length g ss (i + 1)).length
        · rw [List.getD_eq_getElem?_getD, List.getElem?_set_self hd]
          show _ = g i
          rw [h0]
          exact hs.toV (x := .tmp s) hv
        · rw [List.set_eq_of_length_le (Nat.le_of_not_lt hd)]
          exact ih.2.2 s bx
      · rw [List.getD_eq_getElem?_getD, List.getElem?_set_ne e, ← List.getD_eq_getElem?_getD]
        exact ih.2.2 t bx
    · cases h

theorem boxes_sound {st : St} (g : Nat → Value) : ∀ (bs : List (Nat × Nat)) (vs : List Value) (i : Nat), keepB st bs = some vs → (∀ j, j < vs.length → g (i + j) = vs.getD j undef) → ∀ k cs, boxesFrom g bs i k = some cs → st.bx k = some cs
  | [], vs, i, h, hg => fun k cs hk => by cases hk
  | (k, m) :: r, vs, i, h, hg => fun k' cs hk => by
    simp only [keepB] at h
    split at h
    · rename_i c us hc hu
      cases hl : Nat.beq c.length m with
      | false => rw [hl] at h; cases h
      | true =>
        rw [hl] at h
        cases h
        have hm := Nat.eq_of_beq_eq_true hl
        subst hm
        simp only [boxesFrom] at hk
        cases hb : Nat.beq k k' with
        | true =>
          rw [hb] at hk
          obtain rfl := Nat.eq_of_beq_eq_true hb
          simp only [cond_true, Option.some.injEq] at hk
          rw [hc, ← hk]
          congr 1
          apply List.ext_getElem?
          intro j
          by_cases hj : j < c.length
          · rw [expl_get _ _ _ _ hj, hg j (by simp; omega), List.getElem?_eq_getElem hj, List.getD_eq_getElem?_getD, List.getElem?_append_left hj, List.getElem?_eq_getElem hj]
            rfl
          · rw [List.getElem?_eq_none (by omega), List.getElem?_eq_none (by rw [length_expl]; omega)]
        | false =>
          rw [hb] at hk
          exact boxes_sound g r us (i + c.length) hu (fun j hj => by
            have := hg (c.length + j) (by simp; omega)
            rw [← Nat.add_assoc] at this
            rw [this, List.getD_eq_getElem?_getD, List.getElem?_append_right (by omega), List.getD_eq_getElem?_getD]
            congr 2
            omega) k' cs hk
    · cases h

theorem hasB_some (g : Nat → Value) : ∀ (bs : List (Nat × Nat)) (i k : Nat), hasB bs k = true → boxesFrom g bs i k ≠ none
  | (k', m) :: r, i, k, h => by
    simp only [hasB] at h
    simp only [boxesFrom]
    cases hb : Nat.beq k' k with
    | true => simp
    | false => rw [hb] at h; exact hasB_some g r _ k h

theorem lps_sound {β : Nat → Nat} {st : St} {σ : Vw} {a : Act} {w : World} (hs : Sim w0 σe we fz β st σ a w) {bs : List (Nat × Nat)} : ∀ (ls : List Nat) (s : St), keepL st bs ls = true → (∀ k, hasB bs k = true → s.bx k ≠ none) → Sim w0 σe we fz β s σ a w →
    Sim w0 σe we fz β (setLps ls s) σ a w ∧ (setLps ls s).tmps.length = s.tmps.length
  | [], s, _, _, hs' => ⟨hs', rfl⟩
  | k :: r, s, h, hb, hs' => by
    simp only [keepL] at h
    split at h
    · rename_i k' hx
      split at h
      · rename_i h1 h2
        obtain rfl := Nat.eq_of_beq_eq_true h1
        have hv := hs.tm k
        rw [hx] at hv
        have := lps_sound hs r { s with tmps := s.tmps.set k (.lp k 0) } h hb (hs'.slot k (x := .lp k 0) ⟨hb k h2, hv.2⟩)
        exact ⟨this.1, by simpa [setLps] using this.2⟩
      · cases h
    · cases h

theorem keep_sound {β : Nat → Nat} {st : St} {σ : Vw} {a : Act} {w : World} (hs : Sim w0 σe we fz β st σ a w) {kp : Keep} {vs : List Value} (h : keepV kp st = some vs) : Sim w0 σe we fz β (toSt st.tmps.length kp vs) σ a w ∧ (toSt st.tmps.length kp vs).tmps.length = st.tmps.length := by
  unfold keepV at h
  split at h
  · rename_i hlps
    split at h
    · rename_i us bs hu hb
      cases h
      have h1 := slots_sound hs (vget (us ++ bs)) kp.slots us 0 hu (fun j hj => by
        rw [vget, Nat.zero_add, List.getD_eq_getElem?_getD, List.getElem?_append_left hj, List.getD_eq_getElem?_getD])
      have h2 := boxes_sound (vget (us ++ bs)) kp.boxes bs kp.slots.length hb (fun j hj => by
        rw [← h1.1]
        rw [vget, List.getD_eq_getElem?_getD, List.getElem?_append_right (by omega), List.getD_eq_getElem?_getD]
        congr 2
        omega)
      have hne : ∀ k, (toSt0 st.tmps.length kp (us ++ bs)).bx k ≠ none → st.bx k ≠ none := fun k hk => by
        cases hc : (toSt0 st.tmps.length kp (us ++ bs)).bx k with
        | none => exact absurd hc hk
        | some cs => rw [h2 k cs hc]; simp
      have h3 : Sim w0 σe we fz β (toSt0 st.tmps.length kp (us ++ bs)) σ a w := ⟨h1.2.1.trans hs.len, fun i => h1.2.2 i _, hs.dfs, hs.aft, fun k cs hk => hs.box k cs (h2 k cs hk), fun k k' hk hk' e => hs.inj k k' (hne k hk) (hne k' hk') e, hs.sz⟩
      have h4 := lps_sound hs kp.lps _ hlps (fun k hk => hasB_some _ kp.boxes kp.slots.length k hk) h3
      exact ⟨h4.1, h4.2.trans h1.2.1⟩
    · cases h
  · cases h

theorem den_sound (kp : Nat → Keep) (esc : Nat → Bool) : ∀ (c : Code) (β : Nat → Nat) (st : St) (σ : Vw) (a : Act) (w : World) (K : AX → St → Vw → Prop), den P w0 kp esc c st σ K → Sim w0 σe we fz β st σ a w → c.wp P (QK w0 σe we fz K) a w := by
  intro c
  induction c with
  | skip => intro β st σ a w K h hs; exact wp_skip ⟨β, st, σ, h, hs⟩
  | ret => intro β st σ a w K h hs; exact wp_ret ⟨β, st, σ, h, hs⟩
  | exit i => intro β st σ a w K h hs; exact wp_exit ⟨β, st, σ, h, hs⟩
  | region id ops d =>
    intro β st σ a w K h hs
    cases d with
    | true =>
      simp only [den] at h
      split at h
      · rename_i hm
        have hs' : Sim w0 σe we fz β st σ a { w with drawn := w.drawn + 1 } := hs.step (σ' := σ) ⟨⟨⟨hs.sat.bel.os, hs.sat.bel.tape, hs.sat.bel.output, hs.sat.bel.size, hs.sat.bel.block⟩, hs.sat.row⟩, Nat.le_refl _, fun b hb _ => rfl, fun b r hr => .inl (by rw [hr]; simp)⟩
        exact denD_sound (K := fun st' σ => K .normal st' σ) hm (fun β' st' σ' a' w' hK hs' => ⟨β', st', σ', hK, hs'⟩) hs' h
      · exact h.elim
    | false =>
      refine wp_region (denOps_sound (K := fun st' σ => K .normal st' σ) (List.range ops.size) ops.toList [] β st σ a w ?_ (fun t b h => by cases h) hs h (fun β' st' σ' a' w' hK hs' => ⟨β', st', σ', hK, hs'⟩))
      apply List.ext_getElem?
      intro i
      by_cases hi : i < ops.size
      · simp [hi]
      · simp [hi]
  | seq x y ihx ihy =>
    intro β st σ a w K h hs
    refine wp_seq (wp_mono (ihx β st σ a w _ h hs) ?_)
    rintro (_ | i | l | _ | ch | _) a' w' hq
    · obtain ⟨β', st', σ', hK, hs'⟩ := hq
      exact ihy β' st' σ' a' w' K hK hs'
    · exact hq
    · exact hq.elim
    · exact hq
    · exact hq.elim
    · exact hq.elim
  | cond c x y ihx ihy =>
    intro β st σ a w K h hs
    simp only [den] at h
    have hc := hs.ev c
    split at h
    · rename_i hev; rw [hev] at hc; exact wp_cond_true hc (ihx β st σ a w K h hs)
    · rename_i hev; rw [hev] at hc; exact wp_cond_false hc (ihy β st σ a w K h hs)
    · rename_i v hev
      rw [hev] at hc
      obtain ⟨b, rfl, h1, h2⟩ := h
      cases b with
      | true => exact wp_cond_true hc (ihx β st σ a w K (h1 rfl) hs)
      | false => exact wp_cond_false hc (ihy β st σ a w K (h2 rfl) hs)
    · exact h.elim
  | block id c ih =>
    intro β st σ a w K h hs
    refine wp_block (wp_mono (ih β st σ a w _ h hs) ?_)
    rintro (_ | i | l | _ | ch | _) a' w' hq
    · exact hq
    · obtain ⟨β', st', σ', hK, hs'⟩ := hq
      simp only [Exit.inBlock]
      simp only at hK
      cases hb : Nat.beq i id with
      | true =>
        obtain rfl := Nat.eq_of_beq_eq_true hb
        rw [hb] at hK
        simp only [if_true]
        exact ⟨β', st', σ', hK, hs'⟩
      | false =>
        have hne : i ≠ id := fun e => by subst e; rw [Nat.beq_refl] at hb; cases hb
        rw [hb] at hK
        simp only [if_neg hne]
        exact ⟨β', st', σ', hK, hs'⟩
    · exact hq.elim
    · exact hq
    · exact hq.elim
    · exact hq.elim
  | loop c ih =>
    intro β st σ a w K h hs
    simp only [den] at h
    split at h
    · rename_i vs hvs
      generalize kp (firstReg c) = kk at h hvs
      have hlen : st.tmps.length = fz := hs.len.trans hs.sz
      rw [hlen] at h
      -- what holds at a round's head
      let I : Nat → Act → World → Prop := fun n a w => ∃ β vs σ, lpN (fun vs K σ => den P w0 kp esc c (toSt fz kk vs) σ fun e st σ => match keepV kk st with
        | some vs => K e vs σ
        | none => False) (fun e vs σ => K e (toSt fz kk vs) σ) n vs σ ∧ Sim w0 σe we fz β (toSt fz kk vs) σ a w
      obtain ⟨n, hn⟩ := h
      have hk := keep_sound hs hvs
      rw [hlen] at hk
      have h0 : ∃ n, I n a w := ⟨n, β, vs, σ, hn, hk.1⟩
      refine wp_loop (fun a w => ∃ n, I n a w) (fun a w => leastOf fun n => I n a w) h0 ?_
      intro a1 w1 h1
      obtain ⟨β1, vs1, σ1, hl1, hs1⟩ := (leastOf_spec h1).1
      generalize hm : leastOf (fun n => I n a1 w1) = N at hl1
      cases N with
      | zero => exact hl1.elim
      | succ m =>
        simp only [lpN] at hl1
        refine wp_mono (ih β1 _ σ1 a1 w1 _ hl1 hs1) ?_
        rintro (_ | i | l | _ | ch | _) a' w' hq
        · obtain ⟨β', st', σ', hK, hs'⟩ := hq
          split at hK
          · rename_i vs' hvs'
            have hk' := keep_sound hs' hvs'
            rw [hs'.len.trans hs'.sz] at hk'
            have hI : I m a' w' := ⟨β', vs', σ', hK, hk'.1⟩
            have hex : ∃ n, I n a' w' := ⟨m, hI⟩
            exact ⟨hex, Nat.lt_succ_of_le ((leastOf_spec hex).2 m hI)⟩
          · exact hK.elim
        · obtain ⟨β', st', σ', hK, hs'⟩ := hq
          split at hK
          · rename_i vs' hvs'
            have hk' := keep_sound hs' hvs'
            rw [hs'.len.trans hs'.sz] at hk'
            exact ⟨β', _, σ', hK, hk'.1⟩
          · exact hK.elim
        · exact hq.elim
        · obtain ⟨β', st', σ', hK, hs'⟩ := hq
          split at hK
          · rename_i vs' hvs'
            have hk' := keep_sound hs' hvs'
            rw [hs'.len.trans hs'.sz] at hk'
            exact ⟨β', _, σ', hK, hk'.1⟩
          · exact hK.elim
        · exact hq.elim
        · exact hq.elim
    · exact h.elim
  | rangeFunc f ps x y _ _ => intro β st σ a w K h hs; exact h.elim
  | scope c _ => intro β st σ a w K h hs; exact h.elim
  | label l => intro β st σ a w K h hs; exact h.elim
  | goto l => intro β st σ a w K h hs; exact h.elim
  | refuse y => intro β st σ a w K h hs; exact h.elim
end
end Go.Av

/- The abstract layer, part 14: a function by its body. -/
set_option linter.unusedVariables false
set_option linter.unusedSimpArgs false
namespace Go.Av
open Go Go.RowKit

section
variable (P : Program)
def resL (st : St) : List ResultVar → (List Value → Prop) → Prop
  | [], A => A []
  | .tmp t :: r, A => match toV (st.tmps.getD t .unk) with
    | some v => resL st r fun vs => A (v :: vs)
    | none => False
  | .cell t T :: r, A => match st.tmps.getD t .unk, tyOf P T with
    | .lp k j, some (g, n) => match st.bx k with
      | some cs => match Nat.ble (j + n) cs.length with
        | true => resL st r fun vs => A (mkVal g (expl (fun i => cs.getD i undef) j n) :: vs)
        | false => False
      | none => False
    | _, _ => False

def oneOf : List Value → Value
  | [v] => v
  | vs => .tuple ⟨vs⟩

def retK (rs : List ResultVar) (R : Value → Vw → Prop) : AX → St → Vw → Prop
  | .normal, st, σ => resL P st rs fun vs => R (oneOf vs) σ
  | .ret, st, σ => resL P st rs fun vs => R (oneOf vs) σ
  | .exit _, _, _ => False
end

def entry (n : Nat) (args : List Value) : St := ⟨args.map .val ++ List.replicate (n - args.length) .unk, fun _ => none⟩

section
variable {P : Program} {w0 : World} {σe : Vw} {we : World} {fz : Nat} {β : Nat → Nat} {st : St} {σ : Vw} {a : Act} {w : World}

def resRun (tmps : Array Value) (r : ResultVar) : Sem Value :=
  match r with
  | .tmp t => pure (tmps.getD t undef)
  | .cell b t => do loadVar t (← asAddr (tmps.getD b undef))

theorem res_sound (hs : Sim w0 σe we fz β st σ a w) : ∀ (rs : List ResultVar) (A : List Value → Prop), resL P st rs A → ∃ vs, A vs ∧ vs.length = rs.length ∧
    (rs.mapM (resRun a.tmps)).run P w = .ok vs w
  | [], A, h => ⟨[], h, rfl, by simp⟩
  | .tmp t :: r, A, h => by
    simp only [resL] at h
    split at h
    · rename_i v hv
      obtain ⟨vs, hA, hl, hr⟩ := res_sound hs r _ h
      refine ⟨v :: vs, hA, by simp [hl], ?_⟩
      have hv' : a.tmps.getD t undef = v := hs.toV (x := .tmp t) hv
      simp only [List.mapM_cons, resRun, Sem.run_bind, Sem.run_pure, Result.andThen_ok, hr, hv']
    · exact h.elim
  | .cell t T :: r, A, h => by
    simp only [resL] at h
    have hx := hs.tm t
    split at h
    · rename_i k j g n hev ht
      rw [hev] at hx
      split at h
      · rename_i cs hcs
        split at h
        · rename_i hb
          have hb := Nat.le_of_ble_eq_true hb
          obtain ⟨T', cur, hcur, rfl⟩ := (hs.box k _ hcs).cells
          obtain ⟨vs, hA, hl, hr⟩ := res_sound hs r _ h
          refine ⟨_ :: vs, hA, by simp [hl], ?_⟩
          have hl := run_loadVar ht w ⟨β k, j, none⟩ (fun i => cur.toList.getD (j + i) undef) (fun i hi => by
            rw [show (⟨β k, j, none⟩ : Addr).add i = ⟨β k, j + i, none⟩ by unfold Addr.add; split <;> simp_all]
            unfold World.cell?
            rw [hcur]
            have : j + i < cur.size := by have := hb; simp at this; omega
            simp [this])
          have he : ∀ m i, expl (fun i => cur.toList.getD (j + i) undef) i m = expl (fun i => cur.toList.getD i undef) (j + i) m := by
            intro m
            induction m with
            | zero => intro i; rfl
            | succ m ih => intro i; simp only [expl]; rw [ih (i + 1)]; rfl
          rw [he n 0, Nat.add_zero] at hl
          simp only [List.mapM_cons, resRun, Sem.run_bind, Sem.run_pure, Result.andThen_ok, hr, hx.2, asAddr, hl]
        · exact h.elim
      · exact h.elim
    · exact h.elim

theorem results_sound {fn : Func} {R : Value → Vw → Prop} (hs : Sim w0 σe we fz β st σ a w) (h : resL P st fn.results.toList fun vs => R (oneOf vs) σ) : ∃ v, (results fn a.tmps).run P w = .ok v w ∧ R v σ := by
  obtain ⟨vs, hR, hl, hr⟩ := res_sound hs _ _ h
  refine ⟨oneOf vs, ?_, hR⟩
  have hre : results fn a.tmps = (do
      let vs ← fn.results.mapM (resRun a.tmps)
      pure (if h : vs.size = 1 then vs[0] else .tuple vs)) := by
    unfold results
    congr 2
  rw [hre, Array.mapM_eq_mapM_toList]
  simp only [Sem.run_bind, map_eq_pure_bind, hr, Result.andThen_ok, Sem.run_pure]
  match vs with
  | [] => rfl
  | [v] => rfl
  | _ :: _ :: _ => rfl

/-- A function does what its body is owed. -/
theorem ac_rule {fn : Func} {c : Code} {f : FuncId} (kp : Nat → Keep) (esc : Nat → Bool) (hf : P.funcs[f]? = some fn) (hb : fn.body = some c) (hname : (fn.name == "runtime.NumGoroutine") = false) {args : List Value} {R : Value → Vw → Prop}
    (h : den P w0 kp esc c (entry fn.ntmps args) σ (retK P fn.results.toList R)) : AC P w0 f args σ R := by
  refine ⟨⟨fn, hf, hname, by simp [hb]⟩, fun w hw => ?_⟩
  refine calls_of_wp hf hb ?_
  have hs : Sim w0 σ w (args.length + (fn.ntmps - args.length)) (fun _ => 0) (entry fn.ntmps args) σ { tmps := args.toArray ++ Array.replicate (fn.ntmps - args.toArray.size) undef, defers := [] } w := by
    refine ⟨by simp [entry], fun i => ?_, rfl, Aft.refl hw, fun k cs hk => (by cases hk), fun k k' hk => absurd rfl hk, by simp⟩
    simp only [entry]
    by_cases hi : i < args.length
    · rw [List.getD_eq_getElem?_getD, List.getElem?_append_left (by simpa using hi)]
      rw [Array.getD_eq_getD_getElem?, Array.getElem?_append_left (by simpa using hi)]
      simp [hi, VX]
    · rw [List.getD_eq_getElem?_getD, List.getElem?_append_right (by simpa using Nat.le_of_not_lt hi)]
      simp only [List.getElem?_replicate]
      split <;> exact trivial
  refine wp_mono (den_sound kp esc c _ _ σ _ w _ h hs) ?_
  rintro (_ | i | l | _ | ch | _) a' w' hq
  · obtain ⟨β', st', σ', hK, hs'⟩ := hq
    obtain ⟨v, hv, hR⟩ := results_sound hs' hK
    exact ⟨hs'.dfs, v, hv, v, σ', rfl, hR, hs'.aft⟩
  · obtain ⟨β', st', σ', hK, hs'⟩ := hq
    exact hK.elim
  · exact hq.elim
  · obtain ⟨β', st', σ', hK, hs'⟩ := hq
    obtain ⟨v, hv, hR⟩ := results_sound hs' hK
    exact ⟨hs'.dfs, v, hv, v, σ', rfl, hR, hs'.aft⟩
  · exact hq.elim
  · exact hq.elim
end
end Go.Av
