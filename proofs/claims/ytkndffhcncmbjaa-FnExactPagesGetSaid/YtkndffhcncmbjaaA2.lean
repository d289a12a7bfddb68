/- The abstract layer, part 2: what is owed for an operation ('denOp'), reckoned out by the kernel. -/
import Derived.Test.YtkndffhcncmbjaaA1
set_option linter.unusedVariables false
namespace Go.Av
open Go Go.RowKit

section
variable (P : Program) (w0 : World)

/-- A type's make: an aggregate or not, and how many cells. -/
def tyOf (T : Nat) : Option (Bool × Nat) :=
  match P.info? T, P.underlying T with
  | some i, some d => match d with
    | .struct _ => some (true, i.size)
    | .array _ _ => some (true, i.size)
    | _ => bif Nat.beq i.size 1 then some (false, 1) else none
  | _, _ => none
def zeroOf (T : Nat) : Option (List Value) :=
  match P.info? T with
  | some i => match i.zero with
    | some z => bif Nat.beq (cellsL z).length i.size then some (cellsL z) else none
    | none => none
  | none => none
def offOf (T f : Nat) : Option Nat := match P.underlying T with
  | some (.struct fs) => match fs[f]? with
    | some x => (match tyOf P x.type with | some (_, n) => bif Nat.beq n 0 then none else some x.offset | none => none)
    | none => none
  | _ => none
def allTy : List Field → Bool
  | [] => true
  | f :: r => match tyOf P f.type with | some _ => allTy r | none => false
def elemOf (T : Nat) : Option Nat := match P.underlying T with | some (.slice e) => some e | _ => none

def toVs (st : St) : List Operand → Option (List Value)
  | [] => some []
  | x :: r => match toV (ev st x) with
    | some v => match toVs st r with
      | some vs => some (v :: vs)
      | none => none
    | none => none

/-- A value's n cells, written out. -/
def cellOf (v : Value) (i : Nat) : Value := (cellsL v).getD i undef
def spread (n : Nat) (v : Value) : List Value := expl (cellOf v) 0 n

/-- The cells of a value, written out. -/
def cellsT (g : Bool) (n : Nat) (v : Value) : List Value :=
  match g with
  | true => spread n v
  | false => [v]

/-- The parts of a literal, each at its place. -/
def fillParts (st : St) (place : Nat → Option (Nat × (Bool × Nat))) : List (Nat × Operand) → List Value → (List Value → Prop) → Prop
  | [], cs, A => A cs
  | (i, x) :: r, cs, A => match place i, toV (ev st x) with
    | some (off, (g, n)), some v => match Nat.ble (off + n) cs.length with
      | true => pVal g n v (fillParts st place r (setAt cs off (cellsT g n v)) A)
      | false => False
    | _, _ => False

def replL (cs : List Value) : Nat → List Value
  | 0 => []
  | n + 1 => cs ++ replL cs n

variable (call : FuncId → List Value → Vw → (Value → Vw → Prop) → Prop)

def oV (st : St) : Option Operand → Option (Option Value)
  | none => some none
  | some x => match toV (ev st x) with
    | some v => some (some v)
    | none => none

def allOne (cs : List Value) : Prop := ∀ c, c ∈ cs → c.oneCell' = true

def denB (b : Builtin) (ats : List Nat) (as : List Operand) (st : St) (σ : Vw) (K : TV → Eff → Vw → Prop) : Prop :=
  match b, as, ats with
  | .len, [x], T :: _ => match ev st x, P.underlying T with
    | .val v, some .string => pLenS v fun r => K (.val r) none σ
    | .val v, some (.slice _) => pLen v fun r => K (.val r) none σ
    | .ls _ n, some (.slice _) => K (.val (.int .i64 n)) none σ
    | _, _ => False
  | .append, [x, y], T :: T2 :: _ => match elemOf P T, elemOf P T2, toV (ev st x), ev st y with
    | some e, some e2, some v, y => match tyOf P e, zeroOf P e, Nat.beq T T2 with
      | some (_, n + 1), some _, true => match y with
        | .ls k m => match st.bx k with
          | some cs => match Nat.beq cs.length (m * (n + 1)) with
            | true => allOne cs ∧ pAppend w0 e (n + 1) (P.bytesOf e) v m cs σ fun r σ => K (.val r) none σ
            | false => False
          | none => False
        | .val u => pAppendS w0 e (n + 1) (P.bytesOf e) v u σ fun r σ => K (.val r) none σ
        | _ => False
      | _, _, _ => False
    | _, _, _, _ => False
  | .min, [x, y], _ => match toV (ev st x), toV (ev st y) with
    | some a, some b => pMin a b fun r => K (.val r) none σ
    | _, _ => False
  | .max, [x, y], _ => match toV (ev st x), toV (ev st y) with
    | some a, some b => pMax a b fun r => K (.val r) none σ
    | _, _ => False
  | .clear, [x], T :: _ => match elemOf P T, toV (ev st x) with
    | some e, some v => match zeroOf P e, tyOf P e with
      | some z, some (_, n + 1) => pClear (n + 1) z v σ fun σ => K (.val (.tuple ⟨[]⟩)) none σ
      | _, _ => False
    | _, _ => False
  | _, _, _ => False

/-- A new box of the frame's own, or a new row. -/
def mkBox (esc : Nat → Bool) (dst : Option Tmp) (ety : Nat) (st : St) (cs : List Value) (σ : Vw) (loc : Nat → TV) (far : Nat → Value) (K : TV → Eff → Vw → Prop) : Prop :=
  match dst with
  | some k => match esc k with
    | true => pNew w0 ety cs σ fun b σ => K (.val (far b)) none σ
    | false => match st.bx k with
      | none => K (loc k) (some (k, cs)) σ
      | some _ => False
  | none => False

def gkFind : List (Nat × Bool) → Nat → Option Bool
  | [], _ => none
  | (t, b) :: r, i => bif Nat.beq t i then some b else gkFind r i

/-- Is a bool written out, or has it been parted on? -/
def knownB (gk : List (Nat × Bool)) (st : St) (c : Operand) : Option Bool :=
  match ev st c with
  | .lit b => some b
  | .val _ => match c with
    | .tmp t => gkFind gk t
    | _ => none
  | _ => none

def denOp (esc : Nat → Bool) (gk : List (Nat × Bool)) (dst : Option Tmp) (op : Op) (st : St) (σ : Vw) (K : TV → Eff → Vw → Prop) : Prop :=
  match op with
  | .move x => K (ev st x) none σ
  | .assign x => K (ev st x) none σ
  | .pick c a b => match knownB gk st c with
    | some true => K (ev st a) none σ
    | some false => K (ev st b) none σ
    | none => match ev st c with
      | .val v => pIf v (K (ev st a) none σ) (K (ev st b) none σ)
      | _ => False
  | .alloc T => match zeroOf P T with
    | some cs => mkBox w0 esc dst T st cs σ (fun k => .lp k 0) (fun b => .pointer (some ⟨b, 0, none⟩)) K
    | none => False
  | .box T x => match toV (ev st x), tyOf P T with
    | some v, some (g, n) => pVal g n v (mkBox w0 esc dst T st (cellsT g n v) σ (fun k => .lp k 0) (fun b => .pointer (some ⟨b, 0, none⟩)) K)
    | _, _ => False
  | .build T parts => match P.underlying T, zeroOf P T with
    | some (.struct fs), some cs => match allTy P fs.toList with
     | true => fillParts st (fun i => match fs[i]? with | some f => (match tyOf P f.type with | some ty => some (f.offset, ty) | none => none) | none => none) parts.toList cs fun cs => K (.val (.agg ⟨cs⟩)) none σ
     | false => False
    | some (.array _ e), some cs => match tyOf P e with
      | some (g, n) => fillParts st (fun i => some (i * n, (g, n))) parts.toList cs fun cs => K (.val (.agg ⟨cs⟩)) none σ
      | none => False
    | _, _ => False
  | .buildSlice T len parts => match elemOf P T with
    | some e => match zeroOf P e, tyOf P e with
      | some z, some (g, n + 1) => match Nat.ble (len * (n + 1)) 16000000 with
        | true => fillParts st (fun i => some (i * (n + 1), (g, n + 1))) parts.toList (replL z len) fun cs =>
          mkBox w0 esc dst e st cs σ (fun k => .ls k len) (fun b => .slice (some ⟨b, 0, none⟩) len len) K
        | false => False
      | _, _ => False
    | none => False
  | .load T x => match tyOf P T with
    | some (g, n) => match ev st x with
      | .lp k j => match st.bx k with
        | some cs => match Nat.ble (j + n) cs.length with
          | true => K (.val (mkVal g (expl (fun i => cs.getD i undef) j n))) none σ
          | false => False
        | none => False
      | .val v => pLoad w0 n v σ fun c => K (.val (mkVal g (expl c 0 n))) none σ
      | _ => False
    | none => False
  | .store T x y => match tyOf P T, toV (ev st y) with
    | some (g, n), some u => pVal g n u (match ev st x with
      | .lp k j => match st.bx k with
        | some old => match Nat.ble (j + n) old.length with
          | true => K (.val undef) (some (k, setAt old j (cellsT g n u))) σ
          | false => False
        | none => False
      | .val v => pStore v (cellsT g n u) σ fun σ => K (.val undef) none σ
      | _ => False)
    | _, _ => False
  | .nilCheck x => match ev st x with
    | .lp k j => K (.lp k j) none σ
    | .val v => pNil v (K (.val v) none σ)
    | _ => False
  | .binOp op T x y _ => match toV (ev st x), toV (ev st y) with
    | some a, some b => pBin P T op a b fun r => K (.val r) none σ
    | _, _ => False
  | .unOp op _ x => match toV (ev st x) with
    | some a => pUn op a fun r => K (.val r) none σ
    | none => False
  | .convert s d x => match P.underlying s, P.underlying d, toV (ev st x) with
    | some (.int _), some (.int k), some v => pConvInt k v fun r => K (.val r) none σ
    | some (.slice e), some .string, some v => match P.underlying e with
      | some (.int .u8) => pStr w0 v σ fun r => K (.val r) none σ
      | _ => False
    | some .string, some (.slice e), some v => match P.underlying e with
      | some (.int .u8) => pBytes w0 e v σ fun r σ => K (.val r) none σ
      | _ => False
    | _, _, _ => False
  | .makeSlice T l c => match elemOf P T, toV (ev st l), toV (ev st c) with
    | some e, some l, some c => match zeroOf P e, tyOf P e with
      | some z, some (_, n + 1) => pMake w0 e (n + 1) (P.bytesOf e) z l c σ fun r σ => K (.val r) none σ
      | _, _ => False
    | _, _, _ => False
  | .slice T x lo hi none => match P.underlying T, toV (ev st x), oV st lo, oV st hi with
    | some .string, some v, some l, some h => pSliceStr v l h fun r => K (.val r) none σ
    | some (.slice e), some v, some l, some h => match tyOf P e with
      | some (_, n) => pSlice n v l h fun r => K (.val r) none σ
      | none => False
    | _, _, _, _ => False
  | .slice T x lo hi (some mx) => match P.underlying T, toV (ev st x), oV st lo, oV st hi, oV st (some mx) with
    | some (.slice e), some v, some l, some h, some m => match tyOf P e with
      | some (_, n) => pSlice3 n v l h m fun r => K (.val r) none σ
      | none => False
    | _, _, _, _, _ => False
  | .field T x f => match P.underlying T, tyOf P T, toV (ev st x) with
    | some (.struct fs), some (true, m), some v => match fs[f]? with
      | some fd => match tyOf P fd.type with
        | some (g, n) => match Nat.ble (fd.offset + n) m with
          | true => pVal true m v (K (.val (mkVal g (expl (cellOf v) fd.offset n))) none σ)
          | false => False
        | none => False
      | none => False
    | _, _, _ => False
  | .makeFunc (.func f) first captured => match toVs st first.toList, toVs st captured.toList with
    | some fs, some cs => K (.val (.func (.func f) ⟨fs⟩ ⟨cs⟩)) none σ
    | _, _ => False
  | .fieldAddr T x f => match offOf P T f, ev st x with
    | some o, .lp k j => K (.lp k (j + o)) none σ
    | some o, .val v => pField o v fun r => K (.val r) none σ
    | _, _ => False
  | .indexAddr T x i => match toV (ev st x), toV (ev st i), P.underlying T with
    | some v, some i, some (.slice e) => match tyOf P e with
      | some (_, n) => pIndexAddr n v i fun r => K (.val r) none σ
      | none => False
    | some v, some i, some (.array len e) => match Nat.ble 2 len, tyOf P e with
      | true, some (_, n) => pIndexArr len n v i fun r => K (.val r) none σ
      | _, _ => False
    | _, _, _ => False
  | .index T x i => match toV (ev st x), toV (ev st i), P.underlying T with
    | some v, some i, some .string => pIndexStr v i fun r => K (.val r) none σ
    | _, _, _ => False
  | .extract x i => match toV (ev st x) with
    | some v => pExtract v i fun r => K (.val r) none σ
    | none => False
  | .call c => match c.callee with
    | .builtin b => denB P w0 b c.argTypes.toList c.args.toList st σ K
    | .value (.func f) => match toVs st c.args.toList with
      | some vs => call f vs σ fun r σ => K (.val r) none σ
      | none => False
    | .value (.tmp t) => match toV (ev st (.tmp t)), toVs st c.args.toList with
      | some v, some vs => pCallV call v vs σ fun r σ => K (.val r) none σ
      | _, _ => False
    | _ => False
  | _ => False

/-- What a guard's slot is known to be. -/
def guardSlot (ops : List Oper) (g : Nat) : Option Tmp := (ops[g]?).bind (·.dst)

def agree (b want : Bool) : Bool := match b, want with | true, true => true | false, false => true | _, _ => false

/-- A list, cell by cell. -/
def listK {α : Type} : List α → (List α → Prop) → Prop
  | [], K => K []
  | a :: r, K => listK r fun r => K (a :: r)
theorem listK_eq {α : Type} : ∀ (l : List α) (K : List α → Prop), listK l K = K l
  | [], _ => rfl
  | a :: r, K => listK_eq r _

def setK : List TV → Nat → TV → (List TV → Prop) → Prop
  | [], _, _, K => K []
  | _ :: r, 0, x, K => K (x :: r)
  | a :: r, n + 1, x, K => setK r n x fun r => K (a :: r)
theorem setK_eq : ∀ (l : List TV) (n : Nat) (x : TV) (K : List TV → Prop), setK l n x K = K (l.set n x)
  | [], _, _, _ => rfl
  | _ :: _, 0, _, _ => rfl
  | _ :: r, n + 1, x, K => setK_eq r n x _

def tvK (x : TV) (K : TV → Prop) : Prop :=
  match x with
  | .val v => K (.val v)
  | .lit b => K (.lit b)
  | .lp k j => K (.lp k j)
  | .ls k n => K (.ls k n)
  | .unk => K .unk
  | .und => K .und
theorem tvK_eq (x : TV) (K : TV → Prop) : tvK x K = K x := by cases x <;> rfl

/-- A slot written and a box written, reckoned out. -/
def putK (st : St) (e : Eff) (dst : Option Tmp) (x : TV) (K : St → Prop) : Prop :=
  match e with
  | none => match dst with
    | none => K st
    | some d => tvK x fun x => setK st.tmps d x fun l => K ⟨l, st.bx⟩
  | some (k, cs) => listK cs fun cs => match dst with
    | none => K (st.eff (some (k, cs)))
    | some d => tvK x fun x => setK st.tmps d x fun l => K ⟨l, (st.eff (some (k, cs))).bx⟩
theorem putK_eq (st : St) (e : Eff) (dst : Option Tmp) (x : TV) (K : St → Prop) : putK st e dst x K = K (putT (st.eff e) dst x) := by
  cases e with
  | none => cases dst <;> simp only [putK, tvK_eq, setK_eq, putT, St.eff]
  | some kc =>
    obtain ⟨k, cs⟩ := kc
    cases dst <;> simp only [putK, tvK_eq, setK_eq, listK_eq, putT, St.eff]

def runG (esc : Nat → Bool) (gk : List (Nat × Bool)) (o : Oper) (go : Bool) (st : St) (σ : Vw) (K : St → Vw → Prop) : Prop :=
  match go with
  | true => denOp P w0 call esc gk o.dst o.op st σ fun x e σ => putK st e o.dst x fun st => K st σ
  | false => putK st none o.dst .und fun st => K st σ

/-- May the slot be written? Not if it has been parted on. -/
def freeSlot (gk : List (Nat × Bool)) (dst : Option Tmp) : Bool :=
  match dst with
  | none => true
  | some d => match gkFind gk d with
    | none => true
    | some _ => false

/-- One operation of a region, with its guard: a guard that is not written out is parted on. -/
def denG (ops : List Oper) (esc : Nat → Bool) (gk : List (Nat × Bool)) (o : Oper) (st : St) (σ : Vw) (K : List (Nat × Bool) → St → Vw → Prop) : Prop :=
  match freeSlot gk o.dst with
  | false => False
  | true => match o.guard with
    | none => runG P w0 call esc gk o true st σ (K gk)
    | some (g, want) => match guardSlot ops g with
      | none => False
      | some t => match freeSlot [(t, true)] o.dst with
        | false => False
        | true => match knownB gk st (.tmp t) with
          | some b => runG P w0 call esc gk o (agree b want) st σ (K gk)
          | none => match st.tmps.getD t .unk with
            | .val v => pIf v
                (runG P w0 call esc ((t, true) :: gk) o (agree true want) st σ (K ((t, true) :: gk)))
                (runG P w0 call esc ((t, false) :: gk) o (agree false want) st σ (K ((t, false) :: gk)))
            | .und => runG P w0 call esc gk o false st σ (K gk)
            | _ => False

def denOps (ops : List Oper) (esc : Nat → Bool) : List Oper → List (Nat × Bool) → St → Vw → (St → Vw → Prop) → Prop
  | [], _, st, σ, K => K st σ
  | o :: r, gk, st, σ, K => denG P w0 call ops esc gk o st σ fun gk st σ => denOps ops esc r gk st σ K
end
end Go.Av
