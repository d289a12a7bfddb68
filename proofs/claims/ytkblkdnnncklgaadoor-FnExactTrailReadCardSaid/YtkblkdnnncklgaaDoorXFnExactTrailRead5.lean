/- The law FnExactTrailRead holds: it returns true, and the input reads as it did. No condition. This is part 5 of 5 of its proof. -/
import Derived.Test.YtkblkdnnncklgaaDoorXFnExactTrailRead4
import Derived.Shelf.Strings.Builder1
import Derived.Shelf.Strings.Builder2
import Derived.Shelf.Strings.OnBuilder
import Derived.Shelf.Utf8.RuneCount
import Derived.Shelf.Strconv.Itoa0
import Derived.Shelf.Strconv.Itoa1
import Derived.Shelf.LaysM
import Derived.Shelf.Strconv.Itoa2
import Derived.Shelf.Strconv.Itoa3
import Derived.Shelf.Strings.Search1
import Derived.Shelf.Strings.Search2
import Derived.Shelf.Strings.Search3
import Derived.Shelf.Strings.Cut
import Derived.Shelf.Strings.Count
import Derived.Shelf.Strings.Shaped
import Derived.Shelf.Strings.Split
import Derived.Shelf.Strings.SplitShaped
import Derived.Shelf.Unicode.Decode
import Derived.Shelf.Strings.RuneCount
import Derived.Shelf.Strings.Explode
import Derived.Shelf.Unicode.DecodeSlow
import Derived.Shelf.Unicode.DecodeAny
import Derived.Test.YtkblkdnnncklgaaDoorProg
import Derived.WalkSmall
import Derived.Lib.IndexBytes
import Derived.Test.YtkblkdnnncklgaaDoorRows
import Derived.WalkKit
import Derived.ProofKit
import Derived.OpenShut
import Derived.ShutString
import Derived.ChangeOld
import Derived.Below
import Derived.Carry
import Derived.SizedLaws
import Derived.LaidMore
import Derived.Lay
import Derived.MakeChecks
import Derived.Stop.Joined
import Derived.HandedShaped
import Derived.Shelf.Vars
import Derived.SevenTiedAt
import Derived.Test.YtkblkdnnncklgaaDoorCards
import Derived.Test.YtkblkdnnncklgaaDoorTie

/-
  DERIVED: THE SHELF's CONTRACTS AT THIS DUMP, IN PLAIN WORDS (tools/lay-plain.mjs out of 'TrydShelf.lean', which tools/lay-shelf.mjs wrote): THE SAME DECLARATIONS UNDER THE SAME NAMES: 'import', 'namespace', 'open', 'def', 'theorem' AND NOTHING ELSE: no command of the shelf's: FOR A HAND-IN. Each laying: the table of numbers ('.._ren') and one theorem, a field a fact of the dump's own or the kernel's comparison; each contract: ONE APPLICATION.
-/
namespace Go.Proofs
open Go.Shelf
def Tryd.lays170_ren : Go.Shelf.Ren := ⟨fun | 170 => 54 | n => n, fun | 70 => 72 | 3 => 3 | 0 => 0 | 72 => 75 | 37 => 73 | 5 => 5 | n => n, fun | n => n⟩
theorem Tryd.lays170 : Go.Proofs.Lays.n170 Tryd.prog Tryd.lays170_ren := {
  mixed := by kernel_rfl
  f170 := Tryd.func54.trans (congrArg some (by kernel_rfl))
  t0 := Tryd.underlying0
  a0 := Tryd.isAgg0
  z0 := Tryd.sizeOf0
  v0 := Tryd.zeroValue0
  t3 := Tryd.underlying3
  a3 := Tryd.isAgg3
  z3 := Tryd.sizeOf3
  v3 := Tryd.zeroValue3
  t37 := Tryd.underlying73
  a37 := Tryd.isAgg73
  z37 := Tryd.sizeOf73
  v37 := Tryd.zeroValue73
  t70 := Tryd.underlying72
  a70 := Tryd.isAgg72
  z70 := Tryd.sizeOf72
  v70 := Tryd.zeroValue72
  t72 := Tryd.underlying75
  a72 := Tryd.isAgg75
  z72 := Tryd.sizeOf75
  v72 := Tryd.zeroValue75 }
open Go.RowKit in
/-- (*strings.Builder).Len: "Len returns the number of accumulated bytes; b.Len() == len(b.String()).": the world is as it was. (LAID: no walk: one application.) -/
theorem Tryd.Builder_Len (B b : Nat) (bs : List Value) (w : World) (h : Lib.IsBuilder 75 5 B b bs w) :
    Calls Tryd.prog 54 #[.pointer (some ⟨b, 0, none⟩)] w fun e w' => e = .returned (.int .i64 bs.length) ∧ w' = w := Any.Builder_Len Tryd.lays170 B b bs w h
def Tryd.lays169_ren : Go.Shelf.Ren := ⟨fun | 169 => 55 | n => n, fun | 70 => 72 | 9 => 9 | 0 => 0 | 72 => 75 | 37 => 73 | 127 => 112 | 3 => 3 | 5 => 5 | n => n, fun | n => n⟩
theorem Tryd.lays169 : Go.Proofs.Lays.n169 Tryd.prog Tryd.lays169_ren := {
  mixed := by kernel_rfl
  f169 := Tryd.func55.trans (congrArg some (by kernel_rfl))
  t0 := Tryd.underlying0
  a0 := Tryd.isAgg0
  z0 := Tryd.sizeOf0
  v0 := Tryd.zeroValue0
  t3 := Tryd.underlying3
  a3 := Tryd.isAgg3
  z3 := Tryd.sizeOf3
  v3 := Tryd.zeroValue3
  t9 := Tryd.underlying9
  a9 := Tryd.isAgg9
  z9 := Tryd.sizeOf9
  v9 := Tryd.zeroValue9
  t37 := Tryd.underlying73
  a37 := Tryd.isAgg73
  z37 := Tryd.sizeOf73
  v37 := Tryd.zeroValue73
  t70 := Tryd.underlying72
  a70 := Tryd.isAgg72
  z70 := Tryd.sizeOf72
  v70 := Tryd.zeroValue72
  t72 := Tryd.underlying75
  a72 := Tryd.isAgg75
  z72 := Tryd.sizeOf75
  v72 := Tryd.zeroValue75
  t127 := Tryd.underlying112
  a127 := Tryd.isAgg112
  z127 := Tryd.sizeOf112
  v127 := Tryd.zeroValue112 }
theorem Tryd.Builder_Extra_169 : Builder.Extra Tryd.prog Tryd.lays169_ren := {
  sizeBuilder := by kernel_rfl
  liesBuilder := by kernel_rfl
  t5 := Tryd.underlying5
  a5 := Tryd.isAgg5
  z5 := Tryd.sizeOf5
  v5 := Tryd.zeroValue5
  infoByte := by kernel_rfl
  cellsByte := by kernel_rfl
  sizeByte := by kernel_rfl
  neB5 := by decide }
open Go.RowKit in
/-- (*strings.Builder).String: "String returns the accumulated string.": OF A BUILDER THAT HOLDS AT LEAST ONE BYTE. ✋ THE MODEL FREEZES THOSE BYTES IN THE BUFFER (unsafe.String): a later write INTO them ends the model's run without an answer; a later append BEHIND them goes on. The statement's order of evaluation is drawn: one draw. (LAID: no walk: one application.) -/
theorem Tryd.Builder_String (B b : Nat) (l : List UInt8) (w : World) (h : Lib.IsBuilder 75 5 B b (Lib.byteCells l) w) (h0 : l ≠ []) :
    Calls Tryd.prog 55 #[.pointer (some ⟨b, 0, none⟩)] w fun e w' => e = .returned (.string ⟨l.toArray⟩) ∧ Below B w w' := Any.Builder_String Tryd.lays169 Tryd.Builder_Extra_169 B b l w h h0
open Go.RowKit in
/-- (*strings.Builder).String OF A BUILDER THAT HOLDS NO BYTE: the empty string. (Its buffer is nil, or a row of which it has taken nothing yet; where that row has NO capacity the model lays one new block for unsafe.SliceData's 'some address'.) One draw. (LAID: no walk: one application.) -/
theorem Tryd.Builder_String_empty (B b : Nat) (w : World) (h : Lib.IsBuilder 75 5 B b [] w) (hBw : B ≤ w.heap.size) :
    Calls Tryd.prog 55 #[.pointer (some ⟨b, 0, none⟩)] w fun e w' => e = .returned (.string ⟨#[]⟩) ∧ Below B w w' := Any.Builder_String_empty Tryd.lays169 Tryd.Builder_Extra_169 B b w h hBw
open Go.RowKit in
/-- (*strings.Builder).String: "String returns the accumulated string.": WHATEVER THE BUILDER HOLDS. (LAID: no walk: one application.) -/
theorem Tryd.Builder_String_any (B b : Nat) (l : List UInt8) (w : World) (h : Lib.IsBuilder 75 5 B b (Lib.byteCells l) w) (hBw : B ≤ w.heap.size) :
    Calls Tryd.prog 55 #[.pointer (some ⟨b, 0, none⟩)] w fun e w' => e = .returned (.string ⟨l.toArray⟩) ∧ Below B w w' := Any.Builder_String_any Tryd.lays169 Tryd.Builder_Extra_169 B b l w h hBw
def Tryd.lays241_ren : Go.Shelf.Ren := ⟨fun | 241 => 151 | 277 => 162 | n => n, fun | 70 => 72 | 3 => 3 | 0 => 0 | 72 => 75 | 37 => 73 | 5 => 5 | n => n, fun | n => n⟩
theorem Tryd.lays241 : Go.Proofs.Lays.n241 Tryd.prog Tryd.lays241_ren := {
  mixed := by kernel_rfl
  f241 := Tryd.func151.trans (congrArg some (by kernel_rfl))
  f277 := Tryd.func162.trans (congrArg some (by kernel_rfl))
  t0 := Tryd.underlying0
  a0 := Tryd.isAgg0
  z0 := Tryd.sizeOf0
  v0 := Tryd.zeroValue0
  t3 := Tryd.underlying3
  a3 := Tryd.isAgg3
  z3 := Tryd.sizeOf3
  v3 := Tryd.zeroValue3
  t37 := Tryd.underlying73
  a37 := Tryd.isAgg73
  z37 := Tryd.sizeOf73
  v37 := Tryd.zeroValue73
  t70 := Tryd.underlying72
  a70 := Tryd.isAgg72
  z70 := Tryd.sizeOf72
  v70 := Tryd.zeroValue72
  t72 := Tryd.underlying75
  a72 := Tryd.isAgg75
  z72 := Tryd.sizeOf75
  v72 := Tryd.zeroValue75 }
theorem Tryd.Builder_Extra_241 : Builder.Extra Tryd.prog Tryd.lays241_ren := {
  sizeBuilder := by kernel_rfl
  liesBuilder := by kernel_rfl
  t5 := Tryd.underlying5
  a5 := Tryd.isAgg5
  z5 := Tryd.sizeOf5
  v5 := Tryd.zeroValue5
  infoByte := by kernel_rfl
  cellsByte := by kernel_rfl
  sizeByte := by kernel_rfl
  neB5 := by decide }
open Go.RowKit in
/-- (*strings.Builder).grow (no doc but "grow copies the buffer to a new, larger buffer so that there are at least n bytes of capacity beyond len(b.buf)."): AT A BUILDER WITHOUT A BUFFER: a new row of whatever bytes for its buffer, none of them its own yet. Three draws. (LAID: no walk: one application.) -/
theorem Tryd.Builder_grow_fresh (B b n : Nat) (w : World) (hB : B ≤ b) (hbk : w.heap[b]? = some (.cells #[.pointer (some ⟨b, 0, none⟩), .slice none 0 0] 75 (0, 0))) (hBw : B ≤ w.heap.size) (hn : n ≤ 281474976710656) :
    Calls Tryd.prog 151 #[.pointer (some ⟨b, 0, none⟩), .int .i64 n] w fun e w' => e = .returned (.tuple #[]) ∧ (Lib.BuilderAt 75 5 B b (.pointer (some ⟨b, 0, none⟩)) [] w' ∧ Below B w w') := Any.Builder_grow_fresh Tryd.lays241 Tryd.Builder_Extra_241 B b n w hB hbk hBw hn
def Tryd.lays165_ren : Go.Shelf.Ren := ⟨fun | 165 => 135 | 240 => 94 | 241 => 151 | 276 => 120 | 277 => 162 | n => n, fun | 70 => 72 | 3 => 3 | 0 => 0 | 4 => 4 | 9 => 9 | 20 => 20 | 72 => 75 | 37 => 73 | 164 => 122 | 5 => 5 | n => n, fun | n => n⟩
theorem Tryd.lays165 : Go.Proofs.Lays.n165 Tryd.prog Tryd.lays165_ren := {
  mixed := by kernel_rfl
  f165 := Tryd.func135.trans (congrArg some (by kernel_rfl))
  f240 := Tryd.func94.trans (congrArg some (by kernel_rfl))
  f241 := Tryd.func151.trans (congrArg some (by kernel_rfl))
  f276 := Tryd.func120.trans (congrArg some (by kernel_rfl))
  f277 := Tryd.func162.trans (congrArg some (by kernel_rfl))
  t0 := Tryd.underlying0
  a0 := Tryd.isAgg0
  z0 := Tryd.sizeOf0
  v0 := Tryd.zeroValue0
  t3 := Tryd.underlying3
  a3 := Tryd.isAgg3
  z3 := Tryd.sizeOf3
  v3 := Tryd.zeroValue3
  t4 := Tryd.underlying4
  a4 := Tryd.isAgg4
  z4 := Tryd.sizeOf4
  v4 := Tryd.zeroValue4
  t9 := Tryd.underlying9
  a9 := Tryd.isAgg9
  z9 := Tryd.sizeOf9
  v9 := Tryd.zeroValue9
  t20 := Tryd.underlying20
  a20 := Tryd.isAgg20
  z20 := Tryd.sizeOf20
  v20 := Tryd.zeroValue20
  t37 := Tryd.underlying73
  a37 := Tryd.isAgg73
  z37 := Tryd.sizeOf73
  v37 := Tryd.zeroValue73
  t70 := Tryd.underlying72
  a70 := Tryd.isAgg72
  z70 := Tryd.sizeOf72
  v70 := Tryd.zeroValue72
  t72 := Tryd.underlying75
  a72 := Tryd.isAgg75
  z72 := Tryd.sizeOf75
  v72 := Tryd.zeroValue75
  t164 := Tryd.underlying122
  a164 := Tryd.isAgg122
  z164 := Tryd.sizeOf122
  v164 := Tryd.zeroValue122 }
theorem Tryd.Builder_Extra_165 : Builder.Extra Tryd.prog Tryd.lays165_ren := {
  sizeBuilder := by kernel_rfl
  liesBuilder := by kernel_rfl
  t5 := Tryd.underlying5
  a5 := Tryd.isAgg5
  z5 := Tryd.sizeOf5
  v5 := Tryd.zeroValue5
  infoByte := by kernel_rfl
  cellsByte := by kernel_rfl
  sizeByte := by kernel_rfl
  neB5 := by decide }
open Go.RowKit in
/-- (*strings.Builder).Grow AT A BUILDER THAT HAS NOT BEEN WRITTEN ('var b strings.Builder; b.Grow(n)'): "Grow grows b's capacity, if necessary, to guarantee space for another n bytes.": it holds no byte behind it as before it. (LAID: no walk: one application.) -/
theorem Tryd.Builder_Grow_fresh (B b n : Nat) (w : World) (hB : B ≤ b) (hbk : w.heap[b]? = some (.cells #[.pointer none, .slice none 0 0] 75 (0, 0))) (hBw : B ≤ w.heap.size) (hn : n ≤ 281474976710656) :
    Calls Tryd.prog 135 #[.pointer (some ⟨b, 0, none⟩), .int .i64 n] w fun e w' => e = .returned (.tuple #[]) ∧ (Lib.BuilderAt 75 5 B b (.pointer (some ⟨b, 0, none⟩)) [] w' ∧ Below B w w') := Any.Builder_Grow_fresh Tryd.lays165 Tryd.Builder_Extra_165 B b n w hB hbk hBw hn
def Tryd.lays156_ren : Go.Shelf.Ren := ⟨fun | 156 => 121 | 165 => 135 | 166 => 52 | 169 => 55 | 240 => 94 | 241 => 151 | 276 => 120 | 277 => 162 | n => n, fun | 31 => 22 | 9 => 9 | 3 => 3 | 4 => 4 | 0 => 0 | 20 => 20 | 72 => 75 | 76 => 78 | 70 => 72 | 37 => 73 | 75 => 77 | 127 => 112 | 164 => 122 | 5 => 5 | 80 => 62 | n => n, fun | n => n⟩
theorem Tryd.lays156 : Go.Proofs.Lays.n156 Tryd.prog Tryd.lays156_ren := {
  mixed := by kernel_rfl
  f156 := Tryd.func121.trans (congrArg some (by kernel_rfl))
  f165 := Tryd.func135.trans (congrArg some (by kernel_rfl))
  f166 := Tryd.func52.trans (congrArg some (by kernel_rfl))
  f169 := Tryd.func55.trans (congrArg some (by kernel_rfl))
  f240 := Tryd.func94.trans (congrArg some (by kernel_rfl))
  f241 := Tryd.func151.trans (congrArg some (by kernel_rfl))
  f276 := Tryd.func120.trans (congrArg some (by kernel_rfl))
  f277 := Tryd.func162.trans (congrArg some (by kernel_rfl))
  t0 := Tryd.underlying0
  a0 := Tryd.isAgg0
  z0 := Tryd.sizeOf0
  v0 := Tryd.zeroValue0
  t3 := Tryd.underlying3
  a3 := Tryd.isAgg3
  z3 := Tryd.sizeOf3
  v3 := Tryd.zeroValue3
  t4 := Tryd.underlying4
  a4 := Tryd.isAgg4
  z4 := Tryd.sizeOf4
  v4 := Tryd.zeroValue4
  t9 := Tryd.underlying9
  a9 := Tryd.isAgg9
  z9 := Tryd.sizeOf9
  v9 := Tryd.zeroValue9
  t20 := Tryd.underlying20
  a20 := Tryd.isAgg20
  z20 := Tryd.sizeOf20
  v20 := Tryd.zeroValue20
  t31 := Tryd.underlying22
  a31 := Tryd.isAgg22
  z31 := Tryd.sizeOf22
  v31 := Tryd.zeroValue22
  t37 := Tryd.underlying73
  a37 := Tryd.isAgg73
  z37 := Tryd.sizeOf73
  v37 := Tryd.zeroValue73
  t70 := Tryd.underlying72
  a70 := Tryd.isAgg72
  z70 := Tryd.sizeOf72
  v70 := Tryd.zeroValue72
  t72 := Tryd.underlying75
  a72 := Tryd.isAgg75
  z72 := Tryd.sizeOf75
  v72 := Tryd.zeroValue75
  t75 := Tryd.underlying77
  a75 := Tryd.isAgg77
  z75 := Tryd.sizeOf77
  v75 := Tryd.zeroValue77
  t76 := Tryd.underlying78
  a76 := Tryd.isAgg78
  z76 := Tryd.sizeOf78
  v76 := Tryd.zeroValue78
  t127 := Tryd.underlying112
  a127 := Tryd.isAgg112
  z127 := Tryd.sizeOf112
  v127 := Tryd.zeroValue112
  t164 := Tryd.underlying122
  a164 := Tryd.isAgg122
  z164 := Tryd.sizeOf122
  v164 := Tryd.zeroValue122 }
theorem Tryd.Builder_Extra_156 : Builder.Extra Tryd.prog Tryd.lays156_ren := {
  sizeBuilder := by kernel_rfl
  liesBuilder := by kernel_rfl
  t5 := Tryd.underlying5
  a5 := Tryd.isAgg5
  z5 := Tryd.sizeOf5
  v5 := Tryd.zeroValue5
  infoByte := by kernel_rfl
  cellsByte := by kernel_rfl
  sizeByte := by kernel_rfl
  neB5 := by decide }
open Go.RowKit in
/-- No element: the empty string; the world is as it was. (Whatever the slice's address and capacity: a nil slice too.) (LAID: no walk: one application.) -/
theorem Tryd.strings_Join_none (a : Option Addr) (c : Nat) (sep : ByteArray) (w : World) :
    Calls Tryd.prog 121 #[.slice a 0 c, .string sep] w fun e w' => e = .returned (.string ⟨#[]⟩) ∧ w' = w := Any.strings_Join_none Tryd.lays156 Tryd.Builder_Extra_156 a c sep w
open Go.RowKit in
/-- strings.Join: "Join concatenates the elements of its first argument to create a single string. The separator string sep is placed between elements in the resulting string.": HOWEVER MANY ELEMENTS. Below the heap's end the world is as it was. (LAID: no walk: one application.) -/
theorem Tryd.strings_Join (bk o c : Nat) (xs : List ByteArray) (sep : ByteArray) (w : World) (hcells : ∀ (j : Nat) x, xs[j]? = some x → w.cell? ⟨bk, o + j, none⟩ = some (.string x)) (hbk : bk < w.heap.size) (hN : xs.length ≤ 140737488355328) (hcap : xs.length ≤ c) (hlen : (Lib.join (xs.map (·.data.toList)) sep.data.toList).length ≤ 140737488355328) :
    Calls Tryd.prog 121 #[.slice (some ⟨bk, o, none⟩) xs.length c, .string sep] w fun e w' => e = .returned (.string ⟨(Lib.join (xs.map (·.data.toList)) sep.data.toList).toArray⟩) ∧ Below w.heap.size w w' := Any.strings_Join Tryd.lays156 Tryd.Builder_Extra_156 bk o c xs sep w hcells hbk hN hcap hlen
def Tryd.lays195_ren : Go.Shelf.Ren := ⟨fun | 195 => 143 | n => n, fun | 9 => 9 | 3 => 3 | 0 => 0 | 4 => 4 | n => n, fun | n => n⟩
theorem Tryd.lays195 : Go.Proofs.Lays.n195 Tryd.prog Tryd.lays195_ren := {
  mixed := by kernel_rfl
  f195 := Tryd.func143.trans (congrArg some (by kernel_rfl))
  t0 := Tryd.underlying0
  a0 := Tryd.isAgg0
  z0 := Tryd.sizeOf0
  v0 := Tryd.zeroValue0
  t3 := Tryd.underlying3
  a3 := Tryd.isAgg3
  z3 := Tryd.sizeOf3
  v3 := Tryd.zeroValue3
  t4 := Tryd.underlying4
  a4 := Tryd.isAgg4
  z4 := Tryd.sizeOf4
  v4 := Tryd.zeroValue4
  t9 := Tryd.underlying9
  a9 := Tryd.isAgg9
  z9 := Tryd.sizeOf9
  v9 := Tryd.zeroValue9 }
open Go.RowKit in
/-- unicode/utf8.RuneCountInString: "RuneCountInString is like RuneCount but its input is a string." ("RuneCount returns the number of runes in p. Erroneous and short encodings are treated as single runes of width 1 byte."): EVERY STRING, valid UTF-8 or not: 'Lib.runeCount s' (plain Lean over the model's own 'Utf8.decode'; 'Lib.runeCount_le': at most len(s); 'Lib.runeCount_ascii': on ASCII: len(s)). THE ONE CONDITION: len(s) below 2^63 - 1 (the counter does not wrap): the form's reach pays it. THE WORLD BEHIND THE CALL: ONE BLOCK MORE: the model's iterator over s, at its end: all else as it was. (LAID: no walk: one application.) -/
theorem Tryd.utf8_RuneCountInString (s : ByteArray) (w : World) (hs : s.size < 9223372036854775807) :
    Calls Tryd.prog 143 #[.string s] w fun e w' => e = .returned (.int .i64 (Lib.runeCount s)) ∧ ∃ pos, w' = w.iter s pos := Any.utf8_RuneCountInString Tryd.lays195 s w hs
def Tryd.lays129_ren : Go.Shelf.Ren := ⟨fun | 129 => 164 | n => n, fun | 53 => 144 | 3 => 3 | 4 => 4 | 46 => 133 | 5 => 5 | 9 => 9 | n => n, fun | n => n⟩
theorem Tryd.lays129 : Go.Proofs.Lays.n129 Tryd.prog Tryd.lays129_ren := {
  mixed := by kernel_rfl
  f129 := Tryd.func164.trans (congrArg some (by kernel_rfl))
  t3 := Tryd.underlying3
  a3 := Tryd.isAgg3
  z3 := Tryd.sizeOf3
  v3 := Tryd.zeroValue3
  t4 := Tryd.underlying4
  a4 := Tryd.isAgg4
  z4 := Tryd.sizeOf4
  v4 := Tryd.zeroValue4
  t5 := Tryd.underlying5
  a5 := Tryd.isAgg5
  z5 := Tryd.sizeOf5
  v5 := Tryd.zeroValue5
  t9 := Tryd.underlying9
  a9 := Tryd.isAgg9
  z9 := Tryd.sizeOf9
  v9 := Tryd.zeroValue9
  t46 := Tryd.underlying133
  a46 := Tryd.isAgg133
  z46 := Tryd.sizeOf133
  v46 := Tryd.zeroValue133
  t53 := Tryd.underlying144
  a53 := Tryd.isAgg144
  z53 := Tryd.sizeOf144
  v53 := Tryd.zeroValue144 }
/-- bits.Len64: "Len64 returns the minimum number of bits required to represent x; the result is 0 for x == 0.": IT RETURNS 'Lib.bitLen x'; the world is as it was. ('h0', 'h1': x is a uint64.) (LAID: no walk: one application.) -/
theorem Tryd.bits_Len64 (x : Int) (w : World) (h0 : 0 ≤ x) (h1 : x ≤ 18446744073709551615) :
    Calls Tryd.prog 164 #[.int .u64 x] w fun e w' => e = .returned (.int .i64 (Lib.bitLen x.toNat)) ∧ w' = w := Any.bits_Len64 Tryd.lays129 x w h0 h1
def Tryd.lays317_ren : Go.Shelf.Ren := ⟨fun | 317 => 163 | n => n, fun | 3 => 3 | 46 => 133 | n => n, fun | n => n⟩
theorem Tryd.lays317 : Go.Proofs.Lays.n317 Tryd.prog Tryd.lays317_ren := {
  mixed := by kernel_rfl
  f317 := Tryd.func163.trans (congrArg some (by kernel_rfl))
  t3 := Tryd.underlying3
  a3 := Tryd.isAgg3
  z3 := Tryd.sizeOf3
  v3 := Tryd.zeroValue3
  t46 := Tryd.underlying133
  a46 := Tryd.isAgg133
  z46 := Tryd.sizeOf133
  v46 := Tryd.zeroValue133 }
open Go.Lib in
/-- internal/strconv.log10Pow2: "log10Pow2(x) returns ⌊log₁₀ 2**x⌋ = ⌊x * log₁₀ 2⌋.": '(x * 78913) >> 18', at an x up to 64 (a length in bits). The world is as it was. (LAID: no walk: one application.) -/
theorem Tryd.internal_strconv_log10Pow2 (x : Nat) (h : x ≤ 64) (w : World) :
    Calls Tryd.prog 163 #[.int .i64 x] w fun e w' => e = .returned (.int .i64 (Lib.l10 x)) ∧ w' = w := Any.internal_strconv_log10Pow2 Tryd.lays317 x h w
def Tryd.lays318_ren : Go.Shelf.Ren := ⟨fun | 318 => 165 | n => n, fun | 3 => 3 | 4 => 4 | n => n, fun | n => n⟩
theorem Tryd.lays318 : Go.Proofs.Lays.n318 Tryd.prog Tryd.lays318_ren := {
  mixed := by kernel_rfl
  f318 := Tryd.func165.trans (congrArg some (by kernel_rfl))
  t3 := Tryd.underlying3
  a3 := Tryd.isAgg3
  z3 := Tryd.sizeOf3
  v3 := Tryd.zeroValue3
  t4 := Tryd.underlying4
  a4 := Tryd.isAgg4
  z4 := Tryd.sizeOf4
  v4 := Tryd.zeroValue4 }
open Go.Lib in
/-- internal/strconv.bool2: "bool2 converts b to an integer: 1 for true, 0 for false." The world is as it was. (LAID: no walk: one application.) -/
theorem Tryd.internal_strconv_bool2_int (b : Bool) (w : World) :
    Calls Tryd.prog 165 #[.bool b] w fun e w' => e = .returned (.int .i64 (if b then 1 else 0)) ∧ w' = w := Any.internal_strconv_bool2_int Tryd.lays318 b w
def Tryd.lays283_ren : Go.Shelf.Ren := ⟨fun | 283 => 152 | n => n, fun | 3 => 3 | 9 => 9 | 4 => 4 | n => n, fun | n => n⟩
theorem Tryd.lays283 : Go.Proofs.Lays.n283 Tryd.prog Tryd.lays283_ren := {
  mixed := by kernel_rfl
  f283 := Tryd.func152.trans (congrArg some (by kernel_rfl))
  t3 := Tryd.underlying3
  a3 := Tryd.isAgg3
  z3 := Tryd.sizeOf3
  v3 := Tryd.zeroValue3
  t4 := Tryd.underlying4
  a4 := Tryd.isAgg4
  z4 := Tryd.sizeOf4
  v4 := Tryd.zeroValue4
  t9 := Tryd.underlying9
  a9 := Tryd.isAgg9
  z9 := Tryd.sizeOf9
  v9 := Tryd.zeroValue9 }
open Go.Lib in
/-- internal/strconv.small: "small returns the string for an i with 0 <= i < nSmalls.": i's decimal numeral. The world is as it was. (LAID: no walk: one application.) -/
theorem Tryd.internal_strconv_small (i : Nat) (h : i < 100) (w : World) :
    Calls Tryd.prog 152 #[.int .i64 i] w fun e w' => e = .returned (.string ⟨(Lib.decDigits i).toArray⟩) ∧ w' = w := Any.internal_strconv_small Tryd.lays283 i h w
def Tryd.laysM284_ren : Go.Shelf.Ren := ⟨fun | 284 => 153 | 129 => 164 | 317 => 163 | 318 => 165 | n => n, fun | 53 => 144 | 3 => 3 | 212 => 159 | 0 => 0 | 4 => 4 | 46 => 133 | 5 => 5 | 9 => 9 | n => n, fun | 17 => 3 | n => n⟩
theorem Tryd.laysM284 : Go.Proofs.LaysM.n284 Tryd.prog Tryd.laysM284_ren := {
  mixed := by kernel_rfl
  f129 := Tryd.func164.trans (congrArg some (by kernel_rfl))
  f284 := Tryd.func153.trans (congrArg some (by kernel_rfl))
  f317 := Tryd.func163.trans (congrArg some (by kernel_rfl))
  f318 := Tryd.func165.trans (congrArg some (by kernel_rfl))
  t0 := Tryd.underlying0
  a0 := Tryd.isAgg0
  z0 := Tryd.sizeOf0
  v0 := Tryd.zeroValue0
  t3 := Tryd.underlying3
  a3 := Tryd.isAgg3
  z3 := Tryd.sizeOf3
  v3 := Tryd.zeroValue3
  t4 := Tryd.underlying4
  a4 := Tryd.isAgg4
  z4 := Tryd.sizeOf4
  v4 := Tryd.zeroValue4
  t5 := Tryd.underlying5
  a5 := Tryd.isAgg5
  z5 := Tryd.sizeOf5
  v5 := Tryd.zeroValue5
  t9 := Tryd.underlying9
  a9 := Tryd.isAgg9
  z9 := Tryd.sizeOf9
  v9 := Tryd.zeroValue9
  t46 := Tryd.underlying133
  a46 := Tryd.isAgg133
  z46 := Tryd.sizeOf133
  v46 := Tryd.zeroValue133
  t53 := Tryd.underlying144
  a53 := Tryd.isAgg144
  z53 := Tryd.sizeOf144
  v53 := Tryd.zeroValue144
  t212 := Tryd.underlying159
  a212 := Tryd.isAgg159
  z212 := Tryd.sizeOf159
  v212 := Tryd.zeroValue159
  g17 := by kernel_rfl
  i0 := by kernel_rfl
  i3 := by kernel_rfl
  i4 := by kernel_rfl
  i5 := by kernel_rfl
  i9 := by kernel_rfl
  i46 := by kernel_rfl
  i53 := by kernel_rfl
  i212 := by kernel_rfl
  m17 := by kernel_rfl }
open Go.Lib in
/-- internal/strconv.numDigits, at a d that is not 0: THE NUMBER OF d's DECIMAL DIGITS. The world is as it was. (LAID: no walk: one application.) -/
theorem Tryd.internal_strconv_numDigits (u : Nat) (h1 : 1 ≤ u) (h2 : u < 18446744073709551616) (w : World) (htab : Lib.TabIs Tryd.prog w "internal/strconv.uint64pow10" .u64 Lib.pow10Tab) :
    Calls Tryd.prog 153 #[.int .u64 u] w fun e w' => e = .returned (.int .i64 (Lib.nDigits u)) ∧ w' = w := Any.internal_strconv_numDigits Tryd.laysM284 u h1 h2 w htab
def Tryd.lays285_ren : Go.Shelf.Ren := ⟨fun | 285 => 154 | n => n, fun | 37 => 73 | 53 => 144 | 3 => 3 | 4 => 4 | 51 => 149 | 9 => 9 | 5 => 5 | 0 => 0 | n => n, fun | n => n⟩
theorem Tryd.lays285 : Go.Proofs.Lays.n285 Tryd.prog Tryd.lays285_ren := {
  mixed := by kernel_rfl
  f285 := Tryd.func154.trans (congrArg some (by kernel_rfl))
  t0 := Tryd.underlying0
  a0 := Tryd.isAgg0
  z0 := Tryd.sizeOf0
  v0 := Tryd.zeroValue0
  t3 := Tryd.underlying3
  a3 := Tryd.isAgg3
  z3 := Tryd.sizeOf3
  v3 := Tryd.zeroValue3
  t4 := Tryd.underlying4
  a4 := Tryd.isAgg4
  z4 := Tryd.sizeOf4
  v4 := Tryd.zeroValue4
  t5 := Tryd.underlying5
  a5 := Tryd.isAgg5
  z5 := Tryd.sizeOf5
  v5 := Tryd.zeroValue5
  t9 := Tryd.underlying9
  a9 := Tryd.isAgg9
  z9 := Tryd.sizeOf9
  v9 := Tryd.zeroValue9
  t37 := Tryd.underlying73
  a37 := Tryd.isAgg73
  z37 := Tryd.sizeOf73
  v37 := Tryd.zeroValue73
  t51 := Tryd.underlying149
  a51 := Tryd.isAgg149
  z51 := Tryd.sizeOf149
  v51 := Tryd.zeroValue149
  t53 := Tryd.underlying144
  a53 := Tryd.isAgg144
  z53 := Tryd.sizeOf144
  v53 := Tryd.zeroValue144 }
open Go.RowKit Go.Sort Go.Lib in
/-- internal/strconv.formatBase10: "formatBase10 formats the decimal representation of u into a. The caller is responsible for ensuring that a is big enough to hold u. If a is too big, leading zeros will be filled in as needed.": THE ROW HOLDS u's DIGITS ('FmtInv .. 0 ..': every place t holds 'dg u (len - 1 - t)'); all else is as it was but for the count of draws. (LAID: no walk: one application.) -/
theorem Tryd.internal_strconv_formatBase10 (blk off cap : Nat) (u : Nat) (d : Array UInt8) (w : World) (hH : Holds (fun (b : UInt8) => Value.int .u8 (b.toNat : Int)) w blk off d) (hu : u < 10 ^ d.size) (hu64 : u < 18446744073709551616) (hsz : d.size < 4611686018427387904) :
    Calls Tryd.prog 154 #[.slice (some ⟨blk, off, none⟩) d.size cap, .int .u64 u] w fun e w' =>
      e = .returned (.tuple #[]) ∧ ∃ (n v' : Nat) (dk : Array UInt8), w' = (putRow (fun (b : UInt8) => Value.int .u8 (b.toNat : Int)) w blk off dk).drewN n ∧ FmtInv d.size u 0 v' dk := Any.internal_strconv_formatBase10 Tryd.lays285 blk off cap u d w hH hu hu64 hsz
def Tryd.laysM246_ren : Go.Shelf.Ren := ⟨fun | 246 => 136 | 283 => 152 | 284 => 153 | 285 => 154 | 286 => 155 | 129 => 164 | 317 => 163 | 318 => 165 | 319 => 166 | 320 => 167 | 337 => 170 | 338 => 171 | n => n, fun | 2 => 2 | 3 => 3 | 9 => 9 | 4 => 4 | 171 => 143 | 0 => 0 | 53 => 144 | 37 => 73 | 5 => 5 | 173 => 147 | 212 => 159 | 51 => 149 | 20 => 20 | 213 => 160 | 46 => 133 | 232 => 171 | 233 => 172 | n => n, fun | 17 => 3 | 18 => 6 | 19 => 7 | n => n⟩
theorem Tryd.laysM246 : Go.Proofs.LaysM.n246 Tryd.prog Tryd.laysM246_ren := {
  mixed := by kernel_rfl
  f129 := Tryd.func164.trans (congrArg some (by kernel_rfl))
  f246 := Tryd.func136.trans (congrArg some (by kernel_rfl))
  f283 := Tryd.func152.trans (congrArg some (by kernel_rfl))
  f284 := Tryd.func153.trans (congrArg some (by kernel_rfl))
  f285 := Tryd.func154.trans (congrArg some (by kernel_rfl))
  f286 := Tryd.func155.trans (congrArg some (by kernel_rfl))
  f317 := Tryd.func163.trans (congrArg some (by kernel_rfl))
  f318 := Tryd.func165.trans (congrArg some (by kernel_rfl))
  f319 := Tryd.func166.trans (congrArg some (by kernel_rfl))
  f320 := Tryd.func167.trans (congrArg some (by kernel_rfl))
  f337 := Tryd.func170.trans (congrArg some (by kernel_rfl))
  f338 := Tryd.func171.trans (congrArg some (by kernel_rfl))
  t0 := Tryd.underlying0
  a0 := Tryd.isAgg0
  z0 := Tryd.sizeOf0
  v0 := Tryd.zeroValue0
  t2 := Tryd.underlying2
  a2 := Tryd.isAgg2
  z2 := Tryd.sizeOf2
  v2 := Tryd.zeroValue2
  t3 := Tryd.underlying3
  a3 := Tryd.isAgg3
  z3 := Tryd.sizeOf3
  v3 := Tryd.zeroValue3
  t4 := Tryd.underlying4
  a4 := Tryd.isAgg4
  z4 := Tryd.sizeOf4
  v4 := Tryd.zeroValue4
  t5 := Tryd.underlying5
  a5 := Tryd.isAgg5
  z5 := Tryd.sizeOf5
  v5 := Tryd.zeroValue5
  t9 := Tryd.underlying9
  a9 := Tryd.isAgg9
  z9 := Tryd.sizeOf9
  v9 := Tryd.zeroValue9
  t20 := Tryd.underlying20
  a20 := Tryd.isAgg20
  z20 := Tryd.sizeOf20
  v20 := Tryd.zeroValue20
  t37 := Tryd.underlying73
  a37 := Tryd.isAgg73
  z37 := Tryd.sizeOf73
  v37 := Tryd.zeroValue73
  t46 := Tryd.underlying133
  a46 := Tryd.isAgg133
  z46 := Tryd.sizeOf133
  v46 := Tryd.zeroValue133
  t51 := Tryd.underlying149
  a51 := Tryd.isAgg149
  z51 := Tryd.sizeOf149
  v51 := Tryd.zeroValue149
  t53 := Tryd.underlying144
  a53 := Tryd.isAgg144
  z53 := Tryd.sizeOf144
  v53 := Tryd.zeroValue144
  t171 := Tryd.underlying143
  a171 := Tryd.isAgg143
  z171 := Tryd.sizeOf143
  v171 := Tryd.zeroValue143
  t173 := Tryd.underlying147
  a173 := Tryd.isAgg147
  z173 := Tryd.sizeOf147
  v173 := Tryd.zeroValue147
  t212 := Tryd.underlying159
  a212 := Tryd.isAgg159
  z212 := Tryd.sizeOf159
  v212 := Tryd.zeroValue159
  t213 := Tryd.underlying160
  a213 := Tryd.isAgg160
  z213 := Tryd.sizeOf160
  t232 := Tryd.underlying171
  a232 := Tryd.isAgg171
  z232 := Tryd.sizeOf171
  v232 := Tryd.zeroValue171
  t233 := Tryd.underlying172
  a233 := Tryd.isAgg172
  z233 := Tryd.sizeOf172
  v233 := Tryd.zeroValue172
  g17 := by kernel_rfl
  g18 := by kernel_rfl
  g19 := by kernel_rfl
  i0 := by kernel_rfl
  i2 := by kernel_rfl
  i3 := by kernel_rfl
  i4 := by kernel_rfl
  i5 := by kernel_rfl
  i9 := by kernel_rfl
  i20 := by kernel_rfl
  i37 := by kernel_rfl
  i46 := by kernel_rfl
  i51 := by kernel_rfl
  i53 := by kernel_rfl
  i171 := by kernel_rfl
  i173 := by kernel_rfl
  i212 := by kernel_rfl
  i232 := by kernel_rfl
  i233 := by kernel_rfl
  m17 := by kernel_rfl
  m18 := by kernel_rfl
  m19 := by kernel_rfl }
open Go.RowKit Go.Sort Go.Lib in
/-- internal/strconv.FormatInt: "FormatInt returns the string representation of i in the given base": AT BASE 10: i's decimal numeral, for every int64. The world behind the call: the world before it, new blocks behind the heap, draws. (LAID: no walk: one application.) -/
theorem Tryd.internal_strconv_FormatInt_10 (n : Int) (h0 : -9223372036854775808 ≤ n) (h1 : n ≤ 9223372036854775807) (w : World) (htab : Lib.TabIs Tryd.prog w "internal/strconv.uint64pow10" .u64 Lib.pow10Tab) :
    Calls Tryd.prog 136 #[.int .i64 n, .int .i64 10] w fun e w' => e = .returned (.string ⟨(Lib.itoa n).toArray⟩) ∧ ∃ k os, w' = grow (w.drewN k) os := Any.internal_strconv_FormatInt_10 Tryd.laysM246 n h0 h1 w htab
def Tryd.lays246_ren : Go.Shelf.Ren := ⟨fun | 246 => 136 | 283 => 152 | 284 => 153 | 285 => 154 | 286 => 155 | 129 => 164 | 317 => 163 | 318 => 165 | 319 => 166 | 320 => 167 | 337 => 170 | 338 => 171 | n => n, fun | 2 => 2 | 3 => 3 | 9 => 9 | 4 => 4 | 171 => 143 | 0 => 0 | 53 => 144 | 37 => 73 | 5 => 5 | 173 => 147 | 212 => 159 | 51 => 149 | 20 => 20 | 213 => 160 | 46 => 133 | 232 => 171 | 233 => 172 | n => n, fun | 17 => 3 | 18 => 6 | 19 => 7 | n => n⟩
theorem Tryd.lays246 : Go.Proofs.Lays.n246 Tryd.prog Tryd.lays246_ren := {
  mixed := by kernel_rfl
  f129 := Tryd.func164.trans (congrArg some (by kernel_rfl))
  f246 := Tryd.func136.trans (congrArg some (by kernel_rfl))
  f283 := Tryd.func152.trans (congrArg some (by kernel_rfl))
  f284 := Tryd.func153.trans (congrArg some (by kernel_rfl))
  f285 := Tryd.func154.trans (congrArg some (by kernel_rfl))
  f286 := Tryd.func155.trans (congrArg some (by kernel_rfl))
  f317 := Tryd.func163.trans (congrArg some (by kernel_rfl))
  f318 := Tryd.func165.trans (congrArg some (by kernel_rfl))
  f319 := Tryd.func166.trans (congrArg some (by kernel_rfl))
  f320 := Tryd.func167.trans (congrArg some (by kernel_rfl))
  f337 := Tryd.func170.trans (congrArg some (by kernel_rfl))
  f338 := Tryd.func171.trans (congrArg some (by kernel_rfl))
  t0 := Tryd.underlying0
  a0 := Tryd.isAgg0
  z0 := Tryd.sizeOf0
  v0 := Tryd.zeroValue0
  t2 := Tryd.underlying2
  a2 := Tryd.isAgg2
  z2 := Tryd.sizeOf2
  v2 := Tryd.zeroValue2
  t3 := Tryd.underlying3
  a3 := Tryd.isAgg3
  z3 := Tryd.sizeOf3
  v3 := Tryd.zeroValue3
  t4 := Tryd.underlying4
  a4 := Tryd.isAgg4
  z4 := Tryd.sizeOf4
  v4 := Tryd.zeroValue4
  t5 := Tryd.underlying5
  a5 := Tryd.isAgg5
  z5 := Tryd.sizeOf5
  v5 := Tryd.zeroValue5
  t9 := Tryd.underlying9
  a9 := Tryd.isAgg9
  z9 := Tryd.sizeOf9
  v9 := Tryd.zeroValue9
  t20 := Tryd.underlying20
  a20 := Tryd.isAgg20
  z20 := Tryd.sizeOf20
  v20 := Tryd.zeroValue20
  t37 := Tryd.underlying73
  a37 := Tryd.isAgg73
  z37 := Tryd.sizeOf73
  v37 := Tryd.zeroValue73
  t46 := Tryd.underlying133
  a46 := Tryd.isAgg133
  z46 := Tryd.sizeOf133
  v46 := Tryd.zeroValue133
  t51 := Tryd.underlying149
  a51 := Tryd.isAgg149
  z51 := Tryd.sizeOf149
  v51 := Tryd.zeroValue149
  t53 := Tryd.underlying144
  a53 := Tryd.isAgg144
  z53 := Tryd.sizeOf144
  v53 := Tryd.zeroValue144
  t171 := Tryd.underlying143
  a171 := Tryd.isAgg143
  z171 := Tryd.sizeOf143
  v171 := Tryd.zeroValue143
  t173 := Tryd.underlying147
  a173 := Tryd.isAgg147
  z173 := Tryd.sizeOf147
  v173 := Tryd.zeroValue147
  t212 := Tryd.underlying159
  a212 := Tryd.isAgg159
  z212 := Tryd.sizeOf159
  v212 := Tryd.zeroValue159
  t213 := Tryd.underlying160
  a213 := Tryd.isAgg160
  z213 := Tryd.sizeOf160
  t232 := Tryd.underlying171
  a232 := Tryd.isAgg171
  z232 := Tryd.sizeOf171
  v232 := Tryd.zeroValue171
  t233 := Tryd.underlying172
  a233 := Tryd.isAgg172
  z233 := Tryd.sizeOf172
  v233 := Tryd.zeroValue172
  g17 := by kernel_rfl
  g18 := by kernel_rfl
  g19 := by kernel_rfl }
open Go.RowKit Go.Sort Go.Lib in
/-- THE ROAD WITHOUT THE TABLE: 0 <= i < 100: two constants are read, nothing is laid: no premise on the world, and the world is as it was. (LAID: no walk: one application.) -/
theorem Tryd.internal_strconv_FormatInt_10_small (i : Nat) (hi : i < 100) (w : World) :
    Calls Tryd.prog 136 #[.int .i64 i, .int .i64 10] w fun e w' => e = .returned (.string ⟨(Lib.decDigits i).toArray⟩) ∧ w' = w := Any.internal_strconv_FormatInt_10_small Tryd.lays246 i hi w
def Tryd.laysM243_ren : Go.Shelf.Ren := ⟨fun | 243 => 122 | 246 => 136 | 283 => 152 | 284 => 153 | 285 => 154 | 286 => 155 | 129 => 164 | 317 => 163 | 318 => 165 | 319 => 166 | 320 => 167 | 337 => 170 | 338 => 171 | n => n, fun | 3 => 3 | 9 => 9 | 2 => 2 | 4 => 4 | 171 => 143 | 0 => 0 | 53 => 144 | 37 => 73 | 5 => 5 | 173 => 147 | 212 => 159 | 51 => 149 | 20 => 20 | 213 => 160 | 46 => 133 | 232 => 171 | 233 => 172 | n => n, fun | 17 => 3 | 18 => 6 | 19 => 7 | n => n⟩
theorem Tryd.laysM243 : Go.Proofs.LaysM.n243 Tryd.prog Tryd.laysM243_ren := {
  mixed := by kernel_rfl
  f129 := Tryd.func164.trans (congrArg some (by kernel_rfl))
  f243 := Tryd.func122.trans (congrArg some (by kernel_rfl))
  f246 := Tryd.func136.trans (congrArg some (by kernel_rfl))
  f283 := Tryd.func152.trans (congrArg some (by kernel_rfl))
  f284 := Tryd.func153.trans (congrArg some (by kernel_rfl))
  f285 := Tryd.func154.trans (congrArg some (by kernel_rfl))
  f286 := Tryd.func155.trans (congrArg some (by kernel_rfl))
  f317 := Tryd.func163.trans (congrArg some (by kernel_rfl))
  f318 := Tryd.func165.trans (congrArg some (by kernel_rfl))
  f319 := Tryd.func166.trans (congrArg some (by kernel_rfl))
  f320 := Tryd.func167.trans (congrArg some (by kernel_rfl))
  f337 := Tryd.func170.trans (congrArg some (by kernel_rfl))
  f338 := Tryd.func171.trans (congrArg some (by kernel_rfl))
  t0 := Tryd.underlying0
  a0 := Tryd.isAgg0
  z0 := Tryd.sizeOf0
  v0 := Tryd.zeroValue0
  t2 := Tryd.underlying2
  a2 := Tryd.isAgg2
  z2 := Tryd.sizeOf2
  v2 := Tryd.zeroValue2
  t3 := Tryd.underlying3
  a3 := Tryd.isAgg3
  z3 := Tryd.sizeOf3
  v3 := Tryd.zeroValue3
  t4 := Tryd.underlying4
  a4 := Tryd.isAgg4
  z4 := Tryd.sizeOf4
  v4 := Tryd.zeroValue4
  t5 := Tryd.underlying5
  a5 := Tryd.isAgg5
  z5 := Tryd.sizeOf5
  v5 := Tryd.zeroValue5
  t9 := Tryd.underlying9
  a9 := Tryd.isAgg9
  z9 := Tryd.sizeOf9
  v9 := Tryd.zeroValue9
  t20 := Tryd.underlying20
  a20 := Tryd.isAgg20
  z20 := Tryd.sizeOf20
  v20 := Tryd.zeroValue20
  t37 := Tryd.underlying73
  a37 := Tryd.isAgg73
  z37 := Tryd.sizeOf73
  v37 := Tryd.zeroValue73
  t46 := Tryd.underlying133
  a46 := Tryd.isAgg133
  z46 := Tryd.sizeOf133
  v46 := Tryd.zeroValue133
  t51 := Tryd.underlying149
  a51 := Tryd.isAgg149
  z51 := Tryd.sizeOf149
  v51 := Tryd.zeroValue149
  t53 := Tryd.underlying144
  a53 := Tryd.isAgg144
  z53 := Tryd.sizeOf144
  v53 := Tryd.zeroValue144
  t171 := Tryd.underlying143
  a171 := Tryd.isAgg143
  z171 := Tryd.sizeOf143
  v171 := Tryd.zeroValue143
  t173 := Tryd.underlying147
  a173 := Tryd.isAgg147
  z173 := Tryd.sizeOf147
  v173 := Tryd.zeroValue147
  t212 := Tryd.underlying159
  a212 := Tryd.isAgg159
  z212 := Tryd.sizeOf159
  v212 := Tryd.zeroValue159
  t213 := Tryd.underlying160
  a213 := Tryd.isAgg160
  z213 := Tryd.sizeOf160
  t232 := Tryd.underlying171
  a232 := Tryd.isAgg171
  z232 := Tryd.sizeOf171
  v232 := Tryd.zeroValue171
  t233 := Tryd.underlying172
  a233 := Tryd.isAgg172
  z233 := Tryd.sizeOf172
  v233 := Tryd.zeroValue172
  g17 := by kernel_rfl
  g18 := by kernel_rfl
  g19 := by kernel_rfl
  i0 := by kernel_rfl
  i2 := by kernel_rfl
  i3 := by kernel_rfl
  i4 := by kernel_rfl
  i5 := by kernel_rfl
  i9 := by kernel_rfl
  i20 := by kernel_rfl
  i37 := by kernel_rfl
  i46 := by kernel_rfl
  i51 := by kernel_rfl
  i53 := by kernel_rfl
  i171 := by kernel_rfl
  i173 := by kernel_rfl
  i212 := by kernel_rfl
  i232 := by kernel_rfl
  i233 := by kernel_rfl
  m17 := by kernel_rfl
  m18 := by kernel_rfl
  m19 := by kernel_rfl }
open Go.RowKit Go.Sort Go.Lib in
/-- internal/strconv.Itoa: "Itoa is equivalent to FormatInt(int64(i), 10).": i's decimal numeral, for every int. (LAID: no walk: one application.) -/
theorem Tryd.internal_strconv_Itoa (n : Int) (h0 : -9223372036854775808 ≤ n) (h1 : n ≤ 9223372036854775807) (w : World) (htab : Lib.TabIs Tryd.prog w "internal/strconv.uint64pow10" .u64 Lib.pow10Tab) :
    Calls Tryd.prog 122 #[.int .i64 n] w fun e w' => e = .returned (.string ⟨(Lib.itoa n).toArray⟩) ∧ ∃ k os, w' = grow (w.drewN k) os := Any.internal_strconv_Itoa Tryd.laysM243 n h0 h1 w htab
def Tryd.lays243_ren : Go.Shelf.Ren := ⟨fun | 243 => 122 | 246 => 136 | 283 => 152 | 284 => 153 | 285 => 154 | 286 => 155 | 129 => 164 | 317 => 163 | 318 => 165 | 319 => 166 | 320 => 167 | 337 => 170 | 338 => 171 | n => n, fun | 3 => 3 | 9 => 9 | 2 => 2 | 4 => 4 | 171 => 143 | 0 => 0 | 53 => 144 | 37 => 73 | 5 => 5 | 173 => 147 | 212 => 159 | 51 => 149 | 20 => 20 | 213 => 160 | 46 => 133 | 232 => 171 | 233 => 172 | n => n, fun | 17 => 3 | 18 => 6 | 19 => 7 | n => n⟩
theorem Tryd.lays243 : Go.Proofs.Lays.n243 Tryd.prog Tryd.lays243_ren := {
  mixed := by kernel_rfl
  f129 := Tryd.func164.trans (congrArg some (by kernel_rfl))
  f243 := Tryd.func122.trans (congrArg some (by kernel_rfl))
  f246 := Tryd.func136.trans (congrArg some (by kernel_rfl))
  f283 := Tryd.func152.trans (congrArg some (by kernel_rfl))
  f284 := Tryd.func153.trans (congrArg some (by kernel_rfl))
  f285 := Tryd.func154.trans (congrArg some (by kernel_rfl))
  f286 := Tryd.func155.trans (congrArg some (by kernel_rfl))
  f317 := Tryd.func163.trans (congrArg some (by kernel_rfl))
  f318 := Tryd.func165.trans (congrArg some (by kernel_rfl))
  f319 := Tryd.func166.trans (congrArg some (by kernel_rfl))
  f320 := Tryd.func167.trans (congrArg some (by kernel_rfl))
  f337 := Tryd.func170.trans (congrArg some (by kernel_rfl))
  f338 := Tryd.func171.trans (congrArg some (by kernel_rfl))
  t0 := Tryd.underlying0
  a0 := Tryd.isAgg0
  z0 := Tryd.sizeOf0
  v0 := Tryd.zeroValue0
  t2 := Tryd.underlying2
  a2 := Tryd.isAgg2
  z2 := Tryd.sizeOf2
  v2 := Tryd.zeroValue2
  t3 := Tryd.underlying3
  a3 := Tryd.isAgg3
  z3 := Tryd.sizeOf3
  v3 := Tryd.zeroValue3
  t4 := Tryd.underlying4
  a4 := Tryd.isAgg4
  z4 := Tryd.sizeOf4
  v4 := Tryd.zeroValue4
  t5 := Tryd.underlying5
  a5 := Tryd.isAgg5
  z5 := Tryd.sizeOf5
  v5 := Tryd.zeroValue5
  t9 := Tryd.underlying9
  a9 := Tryd.isAgg9
  z9 := Tryd.sizeOf9
  v9 := Tryd.zeroValue9
  t20 := Tryd.underlying20
  a20 := Tryd.isAgg20
  z20 := Tryd.sizeOf20
  v20 := Tryd.zeroValue20
  t37 := Tryd.underlying73
  a37 := Tryd.isAgg73
  z37 := Tryd.sizeOf73
  v37 := Tryd.zeroValue73
  t46 := Tryd.underlying133
  a46 := Tryd.isAgg133
  z46 := Tryd.sizeOf133
  v46 := Tryd.zeroValue133
  t51 := Tryd.underlying149
  a51 := Tryd.isAgg149
  z51 := Tryd.sizeOf149
  v51 := Tryd.zeroValue149
  t53 := Tryd.underlying144
  a53 := Tryd.isAgg144
  z53 := Tryd.sizeOf144
  v53 := Tryd.zeroValue144
  t171 := Tryd.underlying143
  a171 := Tryd.isAgg143
  z171 := Tryd.sizeOf143
  v171 := Tryd.zeroValue143
  t173 := Tryd.underlying147
  a173 := Tryd.isAgg147
  z173 := Tryd.sizeOf147
  v173 := Tryd.zeroValue147
  t212 := Tryd.underlying159
  a212 := Tryd.isAgg159
  z212 := Tryd.sizeOf159
  v212 := Tryd.zeroValue159
  t213 := Tryd.underlying160
  a213 := Tryd.isAgg160
  z213 := Tryd.sizeOf160
  t232 := Tryd.underlying171
  a232 := Tryd.isAgg171
  z232 := Tryd.sizeOf171
  v232 := Tryd.zeroValue171
  t233 := Tryd.underlying172
  a233 := Tryd.isAgg172
  z233 := Tryd.sizeOf172
  v233 := Tryd.zeroValue172
  g17 := by kernel_rfl
  g18 := by kernel_rfl
  g19 := by kernel_rfl }
open Go.RowKit Go.Sort Go.Lib in
/-- THE ROAD WITHOUT THE TABLE: 0 <= i < 100. (LAID: no walk: one application.) -/
theorem Tryd.internal_strconv_Itoa_small (i : Nat) (hi : i < 100) (w : World) :
    Calls Tryd.prog 122 #[.int .i64 i] w fun e w' => e = .returned (.string ⟨(Lib.decDigits i).toArray⟩) ∧ w' = w := Any.internal_strconv_Itoa_small Tryd.lays243 i hi w
def Tryd.laysM171_ren : Go.Shelf.Ren := ⟨fun | 171 => 96 | 243 => 122 | 246 => 136 | 283 => 152 | 284 => 153 | 285 => 154 | 286 => 155 | 129 => 164 | 317 => 163 | 318 => 165 | 319 => 166 | 320 => 167 | 337 => 170 | 338 => 171 | n => n, fun | 3 => 3 | 9 => 9 | 2 => 2 | 4 => 4 | 171 => 143 | 0 => 0 | 53 => 144 | 37 => 73 | 5 => 5 | 173 => 147 | 212 => 159 | 51 => 149 | 20 => 20 | 213 => 160 | 46 => 133 | 232 => 171 | 233 => 172 | n => n, fun | 17 => 3 | 18 => 6 | 19 => 7 | n => n⟩
theorem Tryd.laysM171 : Go.Proofs.LaysM.n171 Tryd.prog Tryd.laysM171_ren := {
  mixed := by kernel_rfl
  f129 := Tryd.func164.trans (congrArg some (by kernel_rfl))
  f171 := Tryd.func96.trans (congrArg some (by kernel_rfl))
  f243 := Tryd.func122.trans (congrArg some (by kernel_rfl))
  f246 := Tryd.func136.trans (congrArg some (by kernel_rfl))
  f283 := Tryd.func152.trans (congrArg some (by kernel_rfl))
  f284 := Tryd.func153.trans (congrArg some (by kernel_rfl))
  f285 := Tryd.func154.trans (congrArg some (by kernel_rfl))
  f286 := Tryd.func155.trans (congrArg some (by kernel_rfl))
  f317 := Tryd.func163.trans (congrArg some (by kernel_rfl))
  f318 := Tryd.func165.trans (congrArg some (by kernel_rfl))
  f319 := Tryd.func166.trans (congrArg some (by kernel_rfl))
  f320 := Tryd.func167.trans (congrArg some (by kernel_rfl))
  f337 := Tryd.func170.trans (congrArg some (by kernel_rfl))
  f338 := Tryd.func171.trans (congrArg some (by kernel_rfl))
  t0 := Tryd.underlying0
  a0 := Tryd.isAgg0
  z0 := Tryd.sizeOf0
  v0 := Tryd.zeroValue0
  t2 := Tryd.underlying2
  a2 := Tryd.isAgg2
  z2 := Tryd.sizeOf2
  v2 := Tryd.zeroValue2
  t3 := Tryd.underlying3
  a3 := Tryd.isAgg3
  z3 := Tryd.sizeOf3
  v3 := Tryd.zeroValue3
  t4 := Tryd.underlying4
  a4 := Tryd.isAgg4
  z4 := Tryd.sizeOf4
  v4 := Tryd.zeroValue4
  t5 := Tryd.underlying5
  a5 := Tryd.isAgg5
  z5 := Tryd.sizeOf5
  v5 := Tryd.zeroValue5
  t9 := Tryd.underlying9
  a9 := Tryd.isAgg9
  z9 := Tryd.sizeOf9
  v9 := Tryd.zeroValue9
  t20 := Tryd.underlying20
  a20 := Tryd.isAgg20
  z20 := Tryd.sizeOf20
  v20 := Tryd.zeroValue20
  t37 := Tryd.underlying73
  a37 := Tryd.isAgg73
  z37 := Tryd.sizeOf73
  v37 := Tryd.zeroValue73
  t46 := Tryd.underlying133
  a46 := Tryd.isAgg133
  z46 := Tryd.sizeOf133
  v46 := Tryd.zeroValue133
  t51 := Tryd.underlying149
  a51 := Tryd.isAgg149
  z51 := Tryd.sizeOf149
  v51 := Tryd.zeroValue149
  t53 := Tryd.underlying144
  a53 := Tryd.isAgg144
  z53 := Tryd.sizeOf144
  v53 := Tryd.zeroValue144
  t171 := Tryd.underlying143
  a171 := Tryd.isAgg143
  z171 := Tryd.sizeOf143
  v171 := Tryd.zeroValue143
  t173 := Tryd.underlying147
  a173 := Tryd.isAgg147
  z173 := Tryd.sizeOf147
  v173 := Tryd.zeroValue147
  t212 := Tryd.underlying159
  a212 := Tryd.isAgg159
  z212 := Tryd.sizeOf159
  v212 := Tryd.zeroValue159
  t213 := Tryd.underlying160
  a213 := Tryd.isAgg160
  z213 := Tryd.sizeOf160
  t232 := Tryd.underlying171
  a232 := Tryd.isAgg171
  z232 := Tryd.sizeOf171
  v232 := Tryd.zeroValue171
  t233 := Tryd.underlying172
  a233 := Tryd.isAgg172
  z233 := Tryd.sizeOf172
  v233 := Tryd.zeroValue172
  g17 := by kernel_rfl
  g18 := by kernel_rfl
  g19 := by kernel_rfl
  i0 := by kernel_rfl
  i2 := by kernel_rfl
  i3 := by kernel_rfl
  i4 := by kernel_rfl
  i5 := by kernel_rfl
  i9 := by kernel_rfl
  i20 := by kernel_rfl
  i37 := by kernel_rfl
  i46 := by kernel_rfl
  i51 := by kernel_rfl
  i53 := by kernel_rfl
  i171 := by kernel_rfl
  i173 := by kernel_rfl
  i212 := by kernel_rfl
  i232 := by kernel_rfl
  i233 := by kernel_rfl
  m17 := by kernel_rfl
  m18 := by kernel_rfl
  m19 := by kernel_rfl }
open Go.RowKit Go.Sort Go.Lib in
/-- strconv.Itoa: "Itoa is equivalent to FormatInt(int64(i), 10).": i's DECIMAL NUMERAL ('Lib.itoa': a '-' where i is negative, then the digits), FOR EVERY int. The world behind the call: the world before it, new blocks behind the heap (the library's 'var a [24]byte'), draws. (LAID: no walk: one application.) -/
theorem Tryd.strconv_Itoa (n : Int) (h0 : -9223372036854775808 ≤ n) (h1 : n ≤ 9223372036854775807) (w : World) (htab : Lib.TabIs Tryd.prog w "internal/strconv.uint64pow10" .u64 Lib.pow10Tab) :
    Calls Tryd.prog 96 #[.int .i64 n] w fun e w' => e = .returned (.string ⟨(Lib.itoa n).toArray⟩) ∧ ∃ k os, w' = grow (w.drewN k) os := Any.strconv_Itoa Tryd.laysM171 n h0 h1 w htab
def Tryd.lays171_ren : Go.Shelf.Ren := ⟨fun | 171 => 96 | 243 => 122 | 246 => 136 | 283 => 152 | 284 => 153 | 285 => 154 | 286 => 155 | 129 => 164 | 317 => 163 | 318 => 165 | 319 => 166 | 320 => 167 | 337 => 170 | 338 => 171 | n => n, fun | 3 => 3 | 9 => 9 | 2 => 2 | 4 => 4 | 171 => 143 | 0 => 0 | 53 => 144 | 37 => 73 | 5 => 5 | 173 => 147 | 212 => 159 | 51 => 149 | 20 => 20 | 213 => 160 | 46 => 133 | 232 => 171 | 233 => 172 | n => n, fun | 17 => 3 | 18 => 6 | 19 => 7 | n => n⟩
theorem Tryd.lays171 : Go.Proofs.Lays.n171 Tryd.prog Tryd.lays171_ren := {
  mixed := by kernel_rfl
  f129 := Tryd.func164.trans (congrArg some (by kernel_rfl))
  f171 := Tryd.func96.trans (congrArg some (by kernel_rfl))
  f243 := Tryd.func122.trans (congrArg some (by kernel_rfl))
  f246 := Tryd.func136.trans (congrArg some (by kernel_rfl))
  f283 := Tryd.func152.trans (congrArg some (by kernel_rfl))
  f284 := Tryd.func153.trans (congrArg some (by kernel_rfl))
  f285 := Tryd.func154.trans (congrArg some (by kernel_rfl))
  f286 := Tryd.func155.trans (congrArg some (by kernel_rfl))
  f317 := Tryd.func163.trans (congrArg some (by kernel_rfl))
  f318 := Tryd.func165.trans (congrArg some (by kernel_rfl))
  f319 := Tryd.func166.trans (congrArg some (by kernel_rfl))
  f320 := Tryd.func167.trans (congrArg some (by kernel_rfl))
  f337 := Tryd.func170.trans (congrArg some (by kernel_rfl))
  f338 := Tryd.func171.trans (congrArg some (by kernel_rfl))
  t0 := Tryd.underlying0
  a0 := Tryd.isAgg0
  z0 := Tryd.sizeOf0
  v0 := Tryd.zeroValue0
  t2 := Tryd.underlying2
  a2 := Tryd.isAgg2
  z2 := Tryd.sizeOf2
  v2 := Tryd.zeroValue2
  t3 := Tryd.underlying3
  a3 := Tryd.isAgg3
  z3 := Tryd.sizeOf3
  v3 := Tryd.zeroValue3
  t4 := Tryd.underlying4
  a4 := Tryd.isAgg4
  z4 := Tryd.sizeOf4
  v4 := Tryd.zeroValue4
  t5 := Tryd.underlying5
  a5 := Tryd.isAgg5
  z5 := Tryd.sizeOf5
  v5 := Tryd.zeroValue5
  t9 := Tryd.underlying9
  a9 := Tryd.isAgg9
  z9 := Tryd.sizeOf9
  v9 := Tryd.zeroValue9
  t20 := Tryd.underlying20
  a20 := Tryd.isAgg20
  z20 := Tryd.sizeOf20
  v20 := Tryd.zeroValue20
  t37 := Tryd.underlying73
  a37 := Tryd.isAgg73
  z37 := Tryd.sizeOf73
  v37 := Tryd.zeroValue73
  t46 := Tryd.underlying133
  a46 := Tryd.isAgg133
  z46 := Tryd.sizeOf133
  v46 := Tryd.zeroValue133
  t51 := Tryd.underlying149
  a51 := Tryd.isAgg149
  z51 := Tryd.sizeOf149
  v51 := Tryd.zeroValue149
  t53 := Tryd.underlying144
  a53 := Tryd.isAgg144
  z53 := Tryd.sizeOf144
  v53 := Tryd.zeroValue144
  t171 := Tryd.underlying143
  a171 := Tryd.isAgg143
  z171 := Tryd.sizeOf143
  v171 := Tryd.zeroValue143
  t173 := Tryd.underlying147
  a173 := Tryd.isAgg147
  z173 := Tryd.sizeOf147
  v173 := Tryd.zeroValue147
  t212 := Tryd.underlying159
  a212 := Tryd.isAgg159
  z212 := Tryd.sizeOf159
  v212 := Tryd.zeroValue159
  t213 := Tryd.underlying160
  a213 := Tryd.isAgg160
  z213 := Tryd.sizeOf160
  t232 := Tryd.underlying171
  a232 := Tryd.isAgg171
  z232 := Tryd.sizeOf171
  v232 := Tryd.zeroValue171
  t233 := Tryd.underlying172
  a233 := Tryd.isAgg172
  z233 := Tryd.sizeOf172
  v233 := Tryd.zeroValue172
  g17 := by kernel_rfl
  g18 := by kernel_rfl
  g19 := by kernel_rfl }
open Go.RowKit Go.Sort Go.Lib in
/-- THE ROAD WITHOUT THE TABLE: 0 <= i < 100: NO PREMISE ON THE WORLD, AND THE WORLD IS AS IT WAS: a row that keeps its argument in that range need list no table ('laid = []'). (LAID: no walk: one application.) -/
theorem Tryd.strconv_Itoa_small (i : Nat) (hi : i < 100) (w : World) :
    Calls Tryd.prog 96 #[.int .i64 i] w fun e w' => e = .returned (.string ⟨(Lib.decDigits i).toArray⟩) ∧ w' = w := Any.strconv_Itoa_small Tryd.lays171 i hi w
def Tryd.lays217_ren : Go.Shelf.Ren := ⟨fun | 217 => 137 | 266 => 156 | n => n, fun | 9 => 9 | 5 => 5 | 3 => 3 | n => n, fun | n => n⟩
theorem Tryd.lays217 : Go.Proofs.Lays.n217 Tryd.prog Tryd.lays217_ren := {
  mixed := by kernel_rfl
  f217 := Tryd.func137.trans (congrArg some (by kernel_rfl))
  f266 := Tryd.func156.trans (congrArg some (by kernel_rfl))
  t3 := Tryd.underlying3
  a3 := Tryd.isAgg3
  z3 := Tryd.sizeOf3
  v3 := Tryd.zeroValue3
  t5 := Tryd.underlying5
  a5 := Tryd.isAgg5
  z5 := Tryd.sizeOf5
  v5 := Tryd.zeroValue5
  t9 := Tryd.underlying9
  a9 := Tryd.isAgg9
  z9 := Tryd.sizeOf9
  v9 := Tryd.zeroValue9 }
open Go.RowKit Go.Lib in
/-- internal/stringslite.IndexByte (what strings.IndexByte calls): IT RETURNS 'Lib.indexByte s c'; the world is as it was. (LAID: no walk: one application.) -/
theorem Tryd.stringslite_IndexByte (s : ByteArray) (c : Int) (w : World) :
    Calls Tryd.prog 137 #[.string s, .int .u8 c] w fun e w' => e = .returned (.int .i64 (Lib.indexByte s.data.toList c.toNat.toUInt8)) ∧ w' = w := Any.stringslite_IndexByte Tryd.lays217 s c w
def Tryd.lays224_ren : Go.Shelf.Ren := ⟨fun | 224 => 139 | n => n, fun | 3 => 3 | n => n, fun | n => n⟩
theorem Tryd.lays224 : Go.Proofs.Lays.n224 Tryd.prog Tryd.lays224_ren := {
  mixed := by kernel_rfl
  f224 := Tryd.func139.trans (congrArg some (by kernel_rfl))
  t3 := Tryd.underlying3
  a3 := Tryd.isAgg3
  z3 := Tryd.sizeOf3
  v3 := Tryd.zeroValue3 }
open Go.RowKit Go.Lib in
/-- internal/bytealg.Cutover: "Cutover reports the number of failures of IndexByte we should tolerate before switching over to Index. n is the number of bytes processed so far.": on amd64: (n + 16) / 8. (LAID: no walk: one application.) -/
theorem Tryd.bytealg_Cutover (n : Int) (h0 : 0 ≤ n) (h1 : n < 4611686018427387904) (w : World) :
    Calls Tryd.prog 139 #[.int .i64 n] w fun e w' => e = .returned (.int .i64 ((n + 16) / 8)) ∧ w' = w := Any.bytealg_Cutover Tryd.lays224 n h0 h1 w
def Tryd.lays314_ren : Go.Shelf.Ren := ⟨fun | 314 => 157 | n => n, fun | 9 => 9 | 51 => 149 | 3 => 3 | 4 => 4 | 5 => 5 | 46 => 133 | n => n, fun | n => n⟩
theorem Tryd.lays314 : Go.Proofs.Lays.n314 Tryd.prog Tryd.lays314_ren := {
  mixed := by kernel_rfl
  f314 := Tryd.func157.trans (congrArg some (by kernel_rfl))
  t3 := Tryd.underlying3
  a3 := Tryd.isAgg3
  z3 := Tryd.sizeOf3
  v3 := Tryd.zeroValue3
  t4 := Tryd.underlying4
  a4 := Tryd.isAgg4
  z4 := Tryd.sizeOf4
  v4 := Tryd.zeroValue4
  t5 := Tryd.underlying5
  a5 := Tryd.isAgg5
  z5 := Tryd.sizeOf5
  v5 := Tryd.zeroValue5
  t9 := Tryd.underlying9
  a9 := Tryd.isAgg9
  z9 := Tryd.sizeOf9
  v9 := Tryd.zeroValue9
  t46 := Tryd.underlying133
  a46 := Tryd.isAgg133
  z46 := Tryd.sizeOf133
  v46 := Tryd.zeroValue133
  t51 := Tryd.underlying149
  a51 := Tryd.isAgg149
  z51 := Tryd.sizeOf149
  v51 := Tryd.zeroValue149 }
open Go.RowKit Go.Lib in
/-- hashStr: "returns the hash and the appropriate multiplicative factor for use in Rabin-Karp algorithm": THE HASH OF ALL OF sep, AND 16777619 ^ len(sep), both in uint32. (LAID: no walk: one application.) -/
theorem Tryd.bytealg_hashStr (sep : ByteArray) (hs : sep.size < 4294967281) (w : World) :
    Calls Tryd.prog 157 #[.string sep] w fun e w' => e = .returned (.tuple #[.int .u32 (RK.H sep.data.toList % 4294967296), .int .u32 (16777619 ^ sep.size % 4294967296)]) ∧ w' = w := Any.bytealg_hashStr Tryd.lays314 sep hs w
def Tryd.lays267_ren : Go.Shelf.Ren := ⟨fun | 267 => 140 | 314 => 157 | n => n, fun | 9 => 9 | 3 => 3 | 146 => 150 | 51 => 149 | 4 => 4 | 5 => 5 | 46 => 133 | n => n, fun | n => n⟩
theorem Tryd.lays267 : Go.Proofs.Lays.n267 Tryd.prog Tryd.lays267_ren := {
  mixed := by kernel_rfl
  f267 := Tryd.func140.trans (congrArg some (by kernel_rfl))
  f314 := Tryd.func157.trans (congrArg some (by kernel_rfl))
  t3 := Tryd.underlying3
  a3 := Tryd.isAgg3
  z3 := Tryd.sizeOf3
  v3 := Tryd.zeroValue3
  t4 := Tryd.underlying4
  a4 := Tryd.isAgg4
  z4 := Tryd.sizeOf4
  v4 := Tryd.zeroValue4
  t5 := Tryd.underlying5
  a5 := Tryd.isAgg5
  z5 := Tryd.sizeOf5
  v5 := Tryd.zeroValue5
  t9 := Tryd.underlying9
  a9 := Tryd.isAgg9
  z9 := Tryd.sizeOf9
  v9 := Tryd.zeroValue9
  t46 := Tryd.underlying133
  a46 := Tryd.isAgg133
  z46 := Tryd.sizeOf133
  v46 := Tryd.zeroValue133
  t51 := Tryd.underlying149
  a51 := Tryd.isAgg149
  z51 := Tryd.sizeOf149
  v51 := Tryd.zeroValue149
  t146 := Tryd.underlying150
  a146 := Tryd.isAgg150
  z146 := Tryd.sizeOf150
  v146 := Tryd.zeroValue150 }
open Go.RowKit Go.Lib in
theorem Tryd.bytealg_IndexRabinKarp (s sep : ByteArray) (h1 : 1 ≤ sep.size) (h2 : sep.size ≤ s.size) (hs : s.size < 4294967281) (w : World) :
    Calls Tryd.prog 140 #[.string s, .string sep] w fun e w' => e = .returned (.int .i64 (Lib.index s.data.toList sep.data.toList)) ∧ w' = w := Any.bytealg_IndexRabinKarp Tryd.lays267 s sep h1 h2 hs w
def Tryd.lays219_ren : Go.Shelf.Ren := ⟨fun | 219 => 124 | 217 => 137 | 225 => 138 | 224 => 139 | 267 => 140 | 266 => 156 | 314 => 157 | n => n, fun | 9 => 9 | 3 => 3 | 4 => 4 | 5 => 5 | 46 => 133 | 146 => 150 | 51 => 149 | n => n, fun | 1 => 0 | n => n⟩
theorem Tryd.lays219 : Go.Proofs.Lays.n219 Tryd.prog Tryd.lays219_ren := {
  mixed := by kernel_rfl
  f217 := Tryd.func137.trans (congrArg some (by kernel_rfl))
  f219 := Tryd.func124.trans (congrArg some (by kernel_rfl))
  f224 := Tryd.func139.trans (congrArg some (by kernel_rfl))
  f225 := Tryd.func138.trans (congrArg some (by kernel_rfl))
  f266 := Tryd.func156.trans (congrArg some (by kernel_rfl))
  f267 := Tryd.func140.trans (congrArg some (by kernel_rfl))
  f314 := Tryd.func157.trans (congrArg some (by kernel_rfl))
  t3 := Tryd.underlying3
  a3 := Tryd.isAgg3
  z3 := Tryd.sizeOf3
  v3 := Tryd.zeroValue3
  t4 := Tryd.underlying4
  a4 := Tryd.isAgg4
  z4 := Tryd.sizeOf4
  v4 := Tryd.zeroValue4
  t5 := Tryd.underlying5
  a5 := Tryd.isAgg5
  z5 := Tryd.sizeOf5
  v5 := Tryd.zeroValue5
  t9 := Tryd.underlying9
  a9 := Tryd.isAgg9
  z9 := Tryd.sizeOf9
  v9 := Tryd.zeroValue9
  t46 := Tryd.underlying133
  a46 := Tryd.isAgg133
  z46 := Tryd.sizeOf133
  v46 := Tryd.zeroValue133
  t51 := Tryd.underlying149
  a51 := Tryd.isAgg149
  z51 := Tryd.sizeOf149
  v51 := Tryd.zeroValue149
  t146 := Tryd.underlying150
  a146 := Tryd.isAgg150
  z146 := Tryd.sizeOf150
  v146 := Tryd.zeroValue150
  g1 := by kernel_rfl }
open Go.RowKit Go.Lib in
/-- internal/stringslite.Index (what strings.Index calls) AT A substr OF ONE BYTE c: IT RETURNS 'Lib.indexByte s c'; the world is as it was. (LAID: no walk: one application.) -/
theorem Tryd.stringslite_Index_one (s : ByteArray) (c : UInt8) (w : World) :
    Calls Tryd.prog 124 #[.string s, .string ⟨#[c]⟩] w fun e w' => e = .returned (.int .i64 (Lib.indexByte s.data.toList c)) ∧ w' = w := Any.stringslite_Index_one Tryd.lays219 s c w
open Go.RowKit Go.Lib in
/-- internal/stringslite.Index (what strings.Index calls) AT A substr OF WHATEVER LENGTH: IT RETURNS 'Lib.index s substr'; the world is as it was. 'm': what internal/bytealg.MaxLen holds: whatever. (LAID: no walk: one application.) -/
theorem Tryd.stringslite_Index (s sub : ByteArray) (m : Int) (w : World) (hs : s.size < 4294967281) (hm : w.cell? ⟨0, 0, none⟩ = some (.int .i64 m)) :
    Calls Tryd.prog 124 #[.string s, .string sub] w fun e w' => e = .returned (.int .i64 (Lib.index s.data.toList sub.data.toList)) ∧ w' = w := Any.stringslite_Index Tryd.lays219 s sub m w hs hm
def Tryd.lays143_ren : Go.Shelf.Ren := ⟨fun | 143 => 131 | 219 => 124 | 217 => 137 | 225 => 138 | 224 => 139 | 267 => 140 | 266 => 156 | 314 => 157 | n => n, fun | 9 => 9 | 3 => 3 | 4 => 4 | 5 => 5 | 46 => 133 | 146 => 150 | 51 => 149 | n => n, fun | 1 => 0 | n => n⟩
theorem Tryd.lays143 : Go.Proofs.Lays.n143 Tryd.prog Tryd.lays143_ren := {
  mixed := by kernel_rfl
  f143 := Tryd.func131.trans (congrArg some (by kernel_rfl))
  f217 := Tryd.func137.trans (congrArg some (by kernel_rfl))
  f219 := Tryd.func124.trans (congrArg some (by kernel_rfl))
  f224 := Tryd.func139.trans (congrArg some (by kernel_rfl))
  f225 := Tryd.func138.trans (congrArg some (by kernel_rfl))
  f266 := Tryd.func156.trans (congrArg some (by kernel_rfl))
  f267 := Tryd.func140.trans (congrArg some (by kernel_rfl))
  f314 := Tryd.func157.trans (congrArg some (by kernel_rfl))
  t3 := Tryd.underlying3
  a3 := Tryd.isAgg3
  z3 := Tryd.sizeOf3
  v3 := Tryd.zeroValue3
  t4 := Tryd.underlying4
  a4 := Tryd.isAgg4
  z4 := Tryd.sizeOf4
  v4 := Tryd.zeroValue4
  t5 := Tryd.underlying5
  a5 := Tryd.isAgg5
  z5 := Tryd.sizeOf5
  v5 := Tryd.zeroValue5
  t9 := Tryd.underlying9
  a9 := Tryd.isAgg9
  z9 := Tryd.sizeOf9
  v9 := Tryd.zeroValue9
  t46 := Tryd.underlying133
  a46 := Tryd.isAgg133
  z46 := Tryd.sizeOf133
  v46 := Tryd.zeroValue133
  t51 := Tryd.underlying149
  a51 := Tryd.isAgg149
  z51 := Tryd.sizeOf149
  v51 := Tryd.zeroValue149
  t146 := Tryd.underlying150
  a146 := Tryd.isAgg150
  z146 := Tryd.sizeOf150
  v146 := Tryd.zeroValue150
  g1 := by kernel_rfl }
open Go.RowKit Go.Lib in
/-- strings.Index: "Index returns the index of the first instance of substr in s, or -1 if substr is not present in s.": AT A substr OF ONE BYTE c: IT RETURNS 'Lib.indexByte s c'; the world is as it was. (LAID: no walk: one application.) -/
theorem Tryd.strings_Index_one (s : ByteArray) (c : UInt8) (w : World) :
    Calls Tryd.prog 131 #[.string s, .string ⟨#[c]⟩] w fun e w' => e = .returned (.int .i64 (Lib.indexByte s.data.toList c)) ∧ w' = w := Any.strings_Index_one Tryd.lays143 s c w
open Go.RowKit Go.Lib in
/-- strings.Index: "Index returns the index of the first instance of substr in s, or -1 if substr is not present in s.": IT RETURNS 'Lib.index s substr'; the world is as it was. (LAID: no walk: one application.) -/
theorem Tryd.strings_Index (s sub : ByteArray) (m : Int) (w : World) (hs : s.size < 4294967281) (hm : w.cell? ⟨0, 0, none⟩ = some (.int .i64 m)) :
    Calls Tryd.prog 131 #[.string s, .string sub] w fun e w' => e = .returned (.int .i64 (Lib.index s.data.toList sub.data.toList)) ∧ w' = w := Any.strings_Index Tryd.lays143 s sub m w hs hm
def Tryd.lays220_ren : Go.Shelf.Ren := ⟨fun | 220 => 105 | 219 => 124 | 217 => 137 | 225 => 138 | 224 => 139 | 267 => 140 | 266 => 156 | 314 => 157 | n => n, fun | 9 => 9 | 4 => 4 | 3 => 3 | 5 => 5 | 46 => 133 | 146 => 150 | 51 => 149 | n => n, fun | 1 => 0 | n => n⟩
theorem Tryd.lays220 : Go.Proofs.Lays.n220 Tryd.prog Tryd.lays220_ren := {
  mixed := by kernel_rfl
  f217 := Tryd.func137.trans (congrArg some (by kernel_rfl))
  f219 := Tryd.func124.trans (congrArg some (by kernel_rfl))
  f220 := Tryd.func105.trans (congrArg some (by kernel_rfl))
  f224 := Tryd.func139.trans (congrArg some (by kernel_rfl))
  f225 := Tryd.func138.trans (congrArg some (by kernel_rfl))
  f266 := Tryd.func156.trans (congrArg some (by kernel_rfl))
  f267 := Tryd.func140.trans (congrArg some (by kernel_rfl))
  f314 := Tryd.func157.trans (congrArg some (by kernel_rfl))
  t3 := Tryd.underlying3
  a3 := Tryd.isAgg3
  z3 := Tryd.sizeOf3
  v3 := Tryd.zeroValue3
  t4 := Tryd.underlying4
  a4 := Tryd.isAgg4
  z4 := Tryd.sizeOf4
  v4 := Tryd.zeroValue4
  t5 := Tryd.underlying5
  a5 := Tryd.isAgg5
  z5 := Tryd.sizeOf5
  v5 := Tryd.zeroValue5
  t9 := Tryd.underlying9
  a9 := Tryd.isAgg9
  z9 := Tryd.sizeOf9
  v9 := Tryd.zeroValue9
  t46 := Tryd.underlying133
  a46 := Tryd.isAgg133
  z46 := Tryd.sizeOf133
  v46 := Tryd.zeroValue133
  t51 := Tryd.underlying149
  a51 := Tryd.isAgg149
  z51 := Tryd.sizeOf149
  v51 := Tryd.zeroValue149
  t146 := Tryd.underlying150
  a146 := Tryd.isAgg150
  z146 := Tryd.sizeOf150
  v146 := Tryd.zeroValue150
  g1 := by kernel_rfl }
open Go.RowKit Go.Lib in
/-- internal/stringslite.Cut (what strings.Cut calls): IT RETURNS 'Lib.cut s sep'; the world is as it was but for the count of draws. (LAID: no walk: one application.) -/
theorem Tryd.stringslite_Cut (s sep : ByteArray) (m : Int) (w : World) (hs : s.size < 4294967281) (hm : w.cell? ⟨0, 0, none⟩ = some (.int .i64 m)) :
    Calls Tryd.prog 105 #[.string s, .string sep] w fun e w' => e = .returned (.tuple #[.string ⟨(Lib.cut s.data.toList sep.data.toList).1.toArray⟩, .string ⟨(Lib.cut s.data.toList sep.data.toList).2.1.toArray⟩, .bool (Lib.cut s.data.toList sep.data.toList).2.2]) ∧ ∃ n, w' = w.drewN n := Any.stringslite_Cut Tryd.lays220 s sep m w hs hm
def Tryd.lays145_ren : Go.Shelf.Ren := ⟨fun | 145 => 71 | 220 => 105 | 219 => 124 | 217 => 137 | 225 => 138 | 224 => 139 | 267 => 140 | 266 => 156 | 314 => 157 | n => n, fun | 9 => 9 | 4 => 4 | 59 => 96 | 3 => 3 | 5 => 5 | 46 => 133 | 146 => 150 | 51 => 149 | n => n, fun | 1 => 0 | n => n⟩
theorem Tryd.lays145 : Go.Proofs.Lays.n145 Tryd.prog Tryd.lays145_ren := {
  mixed := by kernel_rfl
  f145 := Tryd.func71.trans (congrArg some (by kernel_rfl))
  f217 := Tryd.func137.trans (congrArg some (by kernel_rfl))
  f219 := Tryd.func124.trans (congrArg some (by kernel_rfl))
  f220 := Tryd.func105.trans (congrArg some (by kernel_rfl))
  f224 := Tryd.func139.trans (congrArg some (by kernel_rfl))
  f225 := Tryd.func138.trans (congrArg some (by kernel_rfl))
  f266 := Tryd.func156.trans (congrArg some (by kernel_rfl))
  f267 := Tryd.func140.trans (congrArg some (by kernel_rfl))
  f314 := Tryd.func157.trans (congrArg some (by kernel_rfl))
  t3 := Tryd.underlying3
  a3 := Tryd.isAgg3
  z3 := Tryd.sizeOf3
  v3 := Tryd.zeroValue3
  t4 := Tryd.underlying4
  a4 := Tryd.isAgg4
  z4 := Tryd.sizeOf4
  v4 := Tryd.zeroValue4
  t5 := Tryd.underlying5
  a5 := Tryd.isAgg5
  z5 := Tryd.sizeOf5
  v5 := Tryd.zeroValue5
  t9 := Tryd.underlying9
  a9 := Tryd.isAgg9
  z9 := Tryd.sizeOf9
  v9 := Tryd.zeroValue9
  t46 := Tryd.underlying133
  a46 := Tryd.isAgg133
  z46 := Tryd.sizeOf133
  v46 := Tryd.zeroValue133
  t51 := Tryd.underlying149
  a51 := Tryd.isAgg149
  z51 := Tryd.sizeOf149
  v51 := Tryd.zeroValue149
  t59 := Tryd.underlying96
  a59 := Tryd.isAgg96
  z59 := Tryd.sizeOf96
  v59 := Tryd.zeroValue96
  t146 := Tryd.underlying150
  a146 := Tryd.isAgg150
  z146 := Tryd.sizeOf150
  v146 := Tryd.zeroValue150
  g1 := by kernel_rfl }
open Go.RowKit Go.Lib in
/-- strings.Cut: "Cut slices s around the first instance of sep, returning the text before and after sep. The found result reports whether sep appears in s. If sep does not appear in s, cut returns s, "", false.": IT RETURNS 'Lib.cut s sep'; the world is as it was but for the count of draws. (LAID: no walk: one application.) -/
theorem Tryd.strings_Cut (s sep : ByteArray) (m : Int) (w : World) (hs : s.size < 4294967281) (hm : w.cell? ⟨0, 0, none⟩ = some (.int .i64 m)) :
    Calls Tryd.prog 71 #[.string s, .string sep] w fun e w' => e = .returned (.tuple #[.string ⟨(Lib.cut s.data.toList sep.data.toList).1.toArray⟩, .string ⟨(Lib.cut s.data.toList sep.data.toList).2.1.toArray⟩, .bool (Lib.cut s.data.toList sep.data.toList).2.2]) ∧ ∃ n, w' = w.drewN n := Any.strings_Cut Tryd.lays145 s sep m w hs hm
def Tryd.lays138_ren : Go.Shelf.Ren := ⟨fun | 138 => 130 | 195 => 143 | 218 => 145 | 143 => 131 | 219 => 124 | 217 => 137 | 225 => 138 | 224 => 139 | 267 => 140 | 266 => 156 | 314 => 157 | n => n, fun | 9 => 9 | 3 => 3 | 4 => 4 | 5 => 5 | 0 => 0 | 46 => 133 | 146 => 150 | 51 => 149 | n => n, fun | 1 => 0 | n => n⟩
theorem Tryd.lays138 : Go.Proofs.Lays.n138 Tryd.prog Tryd.lays138_ren := {
  mixed := by kernel_rfl
  f138 := Tryd.func130.trans (congrArg some (by kernel_rfl))
  f143 := Tryd.func131.trans (congrArg some (by kernel_rfl))
  f195 := Tryd.func143.trans (congrArg some (by kernel_rfl))
  f217 := Tryd.func137.trans (congrArg some (by kernel_rfl))
  f218 := Tryd.func145.trans (congrArg some (by kernel_rfl))
  f219 := Tryd.func124.trans (congrArg some (by kernel_rfl))
  f224 := Tryd.func139.trans (congrArg some (by kernel_rfl))
  f225 := Tryd.func138.trans (congrArg some (by kernel_rfl))
  f266 := Tryd.func156.trans (congrArg some (by kernel_rfl))
  f267 := Tryd.func140.trans (congrArg some (by kernel_rfl))
  f314 := Tryd.func157.trans (congrArg some (by kernel_rfl))
  t0 := Tryd.underlying0
  a0 := Tryd.isAgg0
  z0 := Tryd.sizeOf0
  v0 := Tryd.zeroValue0
  t3 := Tryd.underlying3
  a3 := Tryd.isAgg3
  z3 := Tryd.sizeOf3
  v3 := Tryd.zeroValue3
  t4 := Tryd.underlying4
  a4 := Tryd.isAgg4
  z4 := Tryd.sizeOf4
  v4 := Tryd.zeroValue4
  t5 := Tryd.underlying5
  a5 := Tryd.isAgg5
  z5 := Tryd.sizeOf5
  v5 := Tryd.zeroValue5
  t9 := Tryd.underlying9
  a9 := Tryd.isAgg9
  z9 := Tryd.sizeOf9
  v9 := Tryd.zeroValue9
  t46 := Tryd.underlying133
  a46 := Tryd.isAgg133
  z46 := Tryd.sizeOf133
  v46 := Tryd.zeroValue133
  t51 := Tryd.underlying149
  a51 := Tryd.isAgg149
  z51 := Tryd.sizeOf149
  v51 := Tryd.zeroValue149
  t146 := Tryd.underlying150
  a146 := Tryd.isAgg150
  z146 := Tryd.sizeOf150
  v146 := Tryd.zeroValue150
  g1 := by kernel_rfl }
open Go.RowKit Go.Lib in
/-- strings.Count AT A substr OF ONE BYTE ('hp'): "Count counts the number of non-overlapping instances of substr in s.": IT RETURNS 'Lib.countByte s (that byte)'; the world is as it was. ✋ NO CONTRACT HERE YET at an empty substr (utf8.RuneCountInString) or at a longer one (a loop over strings.Index). (LAID: no walk: one application.) -/
theorem Tryd.strings_Count_one (s : ByteArray) (c : UInt8) (w : World) :
    Calls Tryd.prog 130 #[.string s, .string ⟨#[c]⟩] w fun e w' => e = .returned (.int .i64 (Lib.countByte s.data.toList c)) ∧ w' = w := Any.strings_Count_one Tryd.lays138 s c w
open Go.RowKit Go.Lib in
/-- strings.Count AT A substr OF TWO BYTES OR MORE: "Count counts the number of non-overlapping instances of substr in s.": IT RETURNS 'Lib.count s substr'; the world is as it was. (LAID: no walk: one application.) -/
theorem Tryd.strings_Count (s sub : ByteArray) (m : Int) (w : World) (hs : s.size < 4294967281) (hm : w.cell? ⟨0, 0, none⟩ = some (.int .i64 m)) (h2 : 2 ≤ sub.size) :
    Calls Tryd.prog 130 #[.string s, .string sub] w fun e w' => e = .returned (.int .i64 (Lib.countB s sub)) ∧ w' = w := Any.strings_Count Tryd.lays138 s sub m w hs hm h2
def Tryd.laysM219_ren : Go.Shelf.Ren := ⟨fun | 219 => 124 | 217 => 137 | 225 => 138 | 224 => 139 | 267 => 140 | 266 => 156 | 314 => 157 | n => n, fun | 9 => 9 | 3 => 3 | 4 => 4 | 5 => 5 | 46 => 133 | 146 => 150 | 51 => 149 | n => n, fun | 1 => 0 | n => n⟩
theorem Tryd.laysM219 : Go.Proofs.LaysM.n219 Tryd.prog Tryd.laysM219_ren := {
  mixed := by kernel_rfl
  f217 := Tryd.func137.trans (congrArg some (by kernel_rfl))
  f219 := Tryd.func124.trans (congrArg some (by kernel_rfl))
  f224 := Tryd.func139.trans (congrArg some (by kernel_rfl))
  f225 := Tryd.func138.trans (congrArg some (by kernel_rfl))
  f266 := Tryd.func156.trans (congrArg some (by kernel_rfl))
  f267 := Tryd.func140.trans (congrArg some (by kernel_rfl))
  f314 := Tryd.func157.trans (congrArg some (by kernel_rfl))
  t3 := Tryd.underlying3
  a3 := Tryd.isAgg3
  z3 := Tryd.sizeOf3
  v3 := Tryd.zeroValue3
  t4 := Tryd.underlying4
  a4 := Tryd.isAgg4
  z4 := Tryd.sizeOf4
  v4 := Tryd.zeroValue4
  t5 := Tryd.underlying5
  a5 := Tryd.isAgg5
  z5 := Tryd.sizeOf5
  v5 := Tryd.zeroValue5
  t9 := Tryd.underlying9
  a9 := Tryd.isAgg9
  z9 := Tryd.sizeOf9
  v9 := Tryd.zeroValue9
  t46 := Tryd.underlying133
  a46 := Tryd.isAgg133
  z46 := Tryd.sizeOf133
  v46 := Tryd.zeroValue133
  t51 := Tryd.underlying149
  a51 := Tryd.isAgg149
  z51 := Tryd.sizeOf149
  v51 := Tryd.zeroValue149
  t146 := Tryd.underlying150
  a146 := Tryd.isAgg150
  z146 := Tryd.sizeOf150
  v146 := Tryd.zeroValue150
  g1 := by kernel_rfl
  i3 := by kernel_rfl
  i4 := by kernel_rfl
  i5 := by kernel_rfl
  i9 := by kernel_rfl
  i46 := by kernel_rfl
  i51 := by kernel_rfl
  i146 := by kernel_rfl
  m1 := by kernel_rfl
  s1_3 := fun w h => Go.Proofs.cell_of_shapedOpen_int (zero := #[.int .i64 0]) (t := 3) h (of_decide_eq_true (by kernel_rfl)) (by kernel_rfl) rfl (by kernel_rfl) (by kernel_rfl) Tryd.underlying3 }
open Go.RowKit Go.Lib in
theorem Tryd.stringslite_Index_shaped (s sub : ByteArray) (w : World) (h : w.ShapedOpen Tryd.prog) (hs : s.size < 4294967281) :
    Calls Tryd.prog 124 #[.string s, .string sub] w fun e w' => e = .returned (.int .i64 (Lib.index s.data.toList sub.data.toList)) ∧ w' = w := Any.stringslite_Index_shaped Tryd.laysM219 s sub w h hs
def Tryd.laysM143_ren : Go.Shelf.Ren := ⟨fun | 143 => 131 | 219 => 124 | 217 => 137 | 225 => 138 | 224 => 139 | 267 => 140 | 266 => 156 | 314 => 157 | n => n, fun | 9 => 9 | 3 => 3 | 4 => 4 | 5 => 5 | 46 => 133 | 146 => 150 | 51 => 149 | n => n, fun | 1 => 0 | n => n⟩
theorem Tryd.laysM143 : Go.Proofs.LaysM.n143 Tryd.prog Tryd.laysM143_ren := {
  mixed := by kernel_rfl
  f143 := Tryd.func131.trans (congrArg some (by kernel_rfl))
  f217 := Tryd.func137.trans (congrArg some (by kernel_rfl))
  f219 := Tryd.func124.trans (congrArg some (by kernel_rfl))
  f224 := Tryd.func139.trans (congrArg some (by kernel_rfl))
  f225 := Tryd.func138.trans (congrArg some (by kernel_rfl))
  f266 := Tryd.func156.trans (congrArg some (by kernel_rfl))
  f267 := Tryd.func140.trans (congrArg some (by kernel_rfl))
  f314 := Tryd.func157.trans (congrArg some (by kernel_rfl))
  t3 := Tryd.underlying3
  a3 := Tryd.isAgg3
  z3 := Tryd.sizeOf3
  v3 := Tryd.zeroValue3
  t4 := Tryd.underlying4
  a4 := Tryd.isAgg4
  z4 := Tryd.sizeOf4
  v4 := Tryd.zeroValue4
  t5 := Tryd.underlying5
  a5 := Tryd.isAgg5
  z5 := Tryd.sizeOf5
  v5 := Tryd.zeroValue5
  t9 := Tryd.underlying9
  a9 := Tryd.isAgg9
  z9 := Tryd.sizeOf9
  v9 := Tryd.zeroValue9
  t46 := Tryd.underlying133
  a46 := Tryd.isAgg133
  z46 := Tryd.sizeOf133
  v46 := Tryd.zeroValue133
  t51 := Tryd.underlying149
  a51 := Tryd.isAgg149
  z51 := Tryd.sizeOf149
  v51 := Tryd.zeroValue149
  t146 := Tryd.underlying150
  a146 := Tryd.isAgg150
  z146 := Tryd.sizeOf150
  v146 := Tryd.zeroValue150
  g1 := by kernel_rfl
  i3 := by kernel_rfl
  i4 := by kernel_rfl
  i5 := by kernel_rfl
  i9 := by kernel_rfl
  i46 := by kernel_rfl
  i51 := by kernel_rfl
  i146 := by kernel_rfl
  m1 := by kernel_rfl
  s1_3 := fun w h => Go.Proofs.cell_of_shapedOpen_int (zero := #[.int .i64 0]) (t := 3) h (of_decide_eq_true (by kernel_rfl)) (by kernel_rfl) rfl (by kernel_rfl) (by kernel_rfl) Tryd.underlying3 }
open Go.RowKit Go.Lib in
theorem Tryd.strings_Index_shaped (s sub : ByteArray) (w : World) (h : w.ShapedOpen Tryd.prog) (hs : s.size < 4294967281) :
    Calls Tryd.prog 131 #[.string s, .string sub] w fun e w' => e = .returned (.int .i64 (Lib.index s.data.toList sub.data.toList)) ∧ w' = w := Any.strings_Index_shaped Tryd.laysM143 s sub w h hs
def Tryd.laysM220_ren : Go.Shelf.Ren := ⟨fun | 220 => 105 | 219 => 124 | 217 => 137 | 225 => 138 | 224 => 139 | 267 => 140 | 266 => 156 | 314 => 157 | n => n, fun | 9 => 9 | 4 => 4 | 3 => 3 | 5 => 5 | 46 => 133 | 146 => 150 | 51 => 149 | n => n, fun | 1 => 0 | n => n⟩
theorem Tryd.laysM220 : Go.Proofs.LaysM.n220 Tryd.prog Tryd.laysM220_ren := {
  mixed := by kernel_rfl
  f217 := Tryd.func137.trans (congrArg some (by kernel_rfl))
  f219 := Tryd.func124.trans (congrArg some (by kernel_rfl))
  f220 := Tryd.func105.trans (congrArg some (by kernel_rfl))
  f224 := Tryd.func139.trans (congrArg some (by kernel_rfl))
  f225 := Tryd.func138.trans (congrArg some (by kernel_rfl))
  f266 := Tryd.func156.trans (congrArg some (by kernel_rfl))
  f267 := Tryd.func140.trans (congrArg some (by kernel_rfl))
  f314 := Tryd.func157.trans (congrArg some (by kernel_rfl))
  t3 := Tryd.underlying3
  a3 := Tryd.isAgg3
  z3 := Tryd.sizeOf3
  v3 := Tryd.zeroValue3
  t4 := Tryd.underlying4
  a4 := Tryd.isAgg4
  z4 := Tryd.sizeOf4
  v4 := Tryd.zeroValue4
  t5 := Tryd.underlying5
  a5 := Tryd.isAgg5
  z5 := Tryd.sizeOf5
  v5 := Tryd.zeroValue5
  t9 := Tryd.underlying9
  a9 := Tryd.isAgg9
  z9 := Tryd.sizeOf9
  v9 := Tryd.zeroValue9
  t46 := Tryd.underlying133
  a46 := Tryd.isAgg133
  z46 := Tryd.sizeOf133
  v46 := Tryd.zeroValue133
  t51 := Tryd.underlying149
  a51 := Tryd.isAgg149
  z51 := Tryd.sizeOf149
  v51 := Tryd.zeroValue149
  t146 := Tryd.underlying150
  a146 := Tryd.isAgg150
  z146 := Tryd.sizeOf150
  v146 := Tryd.zeroValue150
  g1 := by kernel_rfl
  i3 := by kernel_rfl
  i4 := by kernel_rfl
  i5 := by kernel_rfl
  i9 := by kernel_rfl
  i46 := by kernel_rfl
  i51 := by kernel_rfl
  i146 := by kernel_rfl
  m1 := by kernel_rfl
  s1_3 := fun w h => Go.Proofs.cell_of_shapedOpen_int (zero := #[.int .i64 0]) (t := 3) h (of_decide_eq_true (by kernel_rfl)) (by kernel_rfl) rfl (by kernel_rfl) (by kernel_rfl) Tryd.underlying3 }
open Go.RowKit Go.Lib in
theorem Tryd.stringslite_Cut_shaped (s sep : ByteArray) (w : World) (h : w.ShapedOpen Tryd.prog) (hs : s.size < 4294967281) :
    Calls Tryd.prog 105 #[.string s, .string sep] w fun e w' => e = .returned (.tuple #[.string ⟨(Lib.cut s.data.toList sep.data.toList).1.toArray⟩, .string ⟨(Lib.cut s.data.toList sep.data.toList).2.1.toArray⟩, .bool (Lib.cut s.data.toList sep.data.toList).2.2]) ∧ ∃ n, w' = w.drewN n := Any.stringslite_Cut_shaped Tryd.laysM220 s sep w h hs
def Tryd.laysM145_ren : Go.Shelf.Ren := ⟨fun | 145 => 71 | 220 => 105 | 219 => 124 | 217 => 137 | 225 => 138 | 224 => 139 | 267 => 140 | 266 => 156 | 314 => 157 | n => n, fun | 9 => 9 | 4 => 4 | 59 => 96 | 3 => 3 | 5 => 5 | 46 => 133 | 146 => 150 | 51 => 149 | n => n, fun | 1 => 0 | n => n⟩
theorem Tryd.laysM145 : Go.Proofs.LaysM.n145 Tryd.prog Tryd.laysM145_ren := {
  mixed := by kernel_rfl
  f145 := Tryd.func71.trans (congrArg some (by kernel_rfl))
  f217 := Tryd.func137.trans (congrArg some (by kernel_rfl))
  f219 := Tryd.func124.trans (congrArg some (by kernel_rfl))
  f220 := Tryd.func105.trans (congrArg some (by kernel_rfl))
  f224 := Tryd.func139.trans (congrArg some (by kernel_rfl))
  f225 := Tryd.func138.trans (congrArg some (by kernel_rfl))
  f266 := Tryd.func156.trans (congrArg some (by kernel_rfl))
  f267 := Tryd.func140.trans (congrArg some (by kernel_rfl))
  f314 := Tryd.func157.trans (congrArg some (by kernel_rfl))
  t3 := Tryd.underlying3
  a3 := Tryd.isAgg3
  z3 := Tryd.sizeOf3
  v3 := Tryd.zeroValue3
  t4 := Tryd.underlying4
  a4 := Tryd.isAgg4
  z4 := Tryd.sizeOf4
  v4 := Tryd.zeroValue4
  t5 := Tryd.underlying5
  a5 := Tryd.isAgg5
  z5 := Tryd.sizeOf5
  v5 := Tryd.zeroValue5
  t9 := Tryd.underlying9
  a9 := Tryd.isAgg9
  z9 := Tryd.sizeOf9
  v9 := Tryd.zeroValue9
  t46 := Tryd.underlying133
  a46 := Tryd.isAgg133
  z46 := Tryd.sizeOf133
  v46 := Tryd.zeroValue133
  t51 := Tryd.underlying149
  a51 := Tryd.isAgg149
  z51 := Tryd.sizeOf149
  v51 := Tryd.zeroValue149
  t59 := Tryd.underlying96
  a59 := Tryd.isAgg96
  z59 := Tryd.sizeOf96
  v59 := Tryd.zeroValue96
  t146 := Tryd.underlying150
  a146 := Tryd.isAgg150
  z146 := Tryd.sizeOf150
  v146 := Tryd.zeroValue150
  g1 := by kernel_rfl
  i3 := by kernel_rfl
  i4 := by kernel_rfl
  i5 := by kernel_rfl
  i9 := by kernel_rfl
  i46 := by kernel_rfl
  i51 := by kernel_rfl
  i59 := by kernel_rfl
  i146 := by kernel_rfl
  m1 := by kernel_rfl
  s1_3 := fun w h => Go.Proofs.cell_of_shapedOpen_int (zero := #[.int .i64 0]) (t := 3) h (of_decide_eq_true (by kernel_rfl)) (by kernel_rfl) rfl (by kernel_rfl) (by kernel_rfl) Tryd.underlying3 }
open Go.RowKit Go.Lib in
theorem Tryd.strings_Cut_shaped (s sep : ByteArray) (w : World) (h : w.ShapedOpen Tryd.prog) (hs : s.size < 4294967281) :
    Calls Tryd.prog 71 #[.string s, .string sep] w fun e w' => e = .returned (.tuple #[.string ⟨(Lib.cut s.data.toList sep.data.toList).1.toArray⟩, .string ⟨(Lib.cut s.data.toList sep.data.toList).2.1.toArray⟩, .bool (Lib.cut s.data.toList sep.data.toList).2.2]) ∧ ∃ n, w' = w.drewN n := Any.strings_Cut_shaped Tryd.laysM145 s sep w h hs
def Tryd.laysM138_ren : Go.Shelf.Ren := ⟨fun | 138 => 130 | 195 => 143 | 218 => 145 | 143 => 131 | 219 => 124 | 217 => 137 | 225 => 138 | 224 => 139 | 267 => 140 | 266 => 156 | 314 => 157 | n => n, fun | 9 => 9 | 3 => 3 | 4 => 4 | 5 => 5 | 0 => 0 | 46 => 133 | 146 => 150 | 51 => 149 | n => n, fun | 1 => 0 | n => n⟩
theorem Tryd.laysM138 : Go.Proofs.LaysM.n138 Tryd.prog Tryd.laysM138_ren := {
  mixed := by kernel_rfl
  f138 := Tryd.func130.trans (congrArg some (by kernel_rfl))
  f143 := Tryd.func131.trans (congrArg some (by kernel_rfl))
  f195 := Tryd.func143.trans (congrArg some (by kernel_rfl))
  f217 := Tryd.func137.trans (congrArg some (by kernel_rfl))
  f218 := Tryd.func145.trans (congrArg some (by kernel_rfl))
  f219 := Tryd.func124.trans (congrArg some (by kernel_rfl))
  f224 := Tryd.func139.trans (congrArg some (by kernel_rfl))
  f225 := Tryd.func138.trans (congrArg some (by kernel_rfl))
  f266 := Tryd.func156.trans (congrArg some (by kernel_rfl))
  f267 := Tryd.func140.trans (congrArg some (by kernel_rfl))
  f314 := Tryd.func157.trans (congrArg some (by kernel_rfl))
  t0 := Tryd.underlying0
  a0 := Tryd.isAgg0
  z0 := Tryd.sizeOf0
  v0 := Tryd.zeroValue0
  t3 := Tryd.underlying3
  a3 := Tryd.isAgg3
  z3 := Tryd.sizeOf3
  v3 := Tryd.zeroValue3
  t4 := Tryd.underlying4
  a4 := Tryd.isAgg4
  z4 := Tryd.sizeOf4
  v4 := Tryd.zeroValue4
  t5 := Tryd.underlying5
  a5 := Tryd.isAgg5
  z5 := Tryd.sizeOf5
  v5 := Tryd.zeroValue5
  t9 := Tryd.underlying9
  a9 := Tryd.isAgg9
  z9 := Tryd.sizeOf9
  v9 := Tryd.zeroValue9
  t46 := Tryd.underlying133
  a46 := Tryd.isAgg133
  z46 := Tryd.sizeOf133
  v46 := Tryd.zeroValue133
  t51 := Tryd.underlying149
  a51 := Tryd.isAgg149
  z51 := Tryd.sizeOf149
  v51 := Tryd.zeroValue149
  t146 := Tryd.underlying150
  a146 := Tryd.isAgg150
  z146 := Tryd.sizeOf150
  v146 := Tryd.zeroValue150
  g1 := by kernel_rfl
  i0 := by kernel_rfl
  i3 := by kernel_rfl
  i4 := by kernel_rfl
  i5 := by kernel_rfl
  i9 := by kernel_rfl
  i46 := by kernel_rfl
  i51 := by kernel_rfl
  i146 := by kernel_rfl
  m1 := by kernel_rfl
  s1_3 := fun w h => Go.Proofs.cell_of_shapedOpen_int (zero := #[.int .i64 0]) (t := 3) h (of_decide_eq_true (by kernel_rfl)) (by kernel_rfl) rfl (by kernel_rfl) (by kernel_rfl) Tryd.underlying3 }
open Go.RowKit Go.Lib in
theorem Tryd.strings_Count_shaped (s sub : ByteArray) (w : World) (h : w.ShapedOpen Tryd.prog) (hs : s.size < 4294967281) (h2 : 2 ≤ sub.size) :
    Calls Tryd.prog 130 #[.string s, .string sub] w fun e w' => e = .returned (.int .i64 (Lib.countB s sub)) ∧ w' = w := Any.strings_Count_shaped Tryd.laysM138 s sub w h hs h2
open Go.RowKit Go.Lib in
/-- strings.Count at whatever sep that is not empty: the two roads under one statement. (LAID: no walk: one application.) -/
theorem Tryd.strings_Count_any (s sep : ByteArray) (m : Int) (w : World) (hs : s.size < 4294967281) (hm : w.cell? ⟨0, 0, none⟩ = some (.int .i64 m)) (h1 : 1 ≤ sep.size) :
    Calls Tryd.prog 130 #[.string s, .string sep] w fun e w' => e = .returned (.int .i64 (Lib.countB s sep)) ∧ w' = w := Any.strings_Count_any Tryd.lays138 s sep m w hs hm h1
def Tryd.lays221_ren : Go.Shelf.Ren := ⟨fun | 221 => 112 | 268 => 129 | 138 => 130 | 143 => 131 | 195 => 143 | 197 => 144 | 218 => 145 | 219 => 124 | 260 => 158 | 217 => 137 | 225 => 138 | 224 => 139 | 267 => 140 | 266 => 156 | 314 => 157 | n => n, fun | 9 => 9 | 3 => 3 | 31 => 22 | 4 => 4 | 0 => 0 | 105 => 135 | 21 => 21 | 5 => 5 | 46 => 133 | 119 => 162 | 139 => 165 | 138 => 164 | 146 => 150 | 51 => 149 | n => n, fun | 1 => 0 | 3 => 4 | 4 => 5 | n => n⟩
theorem Tryd.lays221 : Go.Proofs.Lays.n221 Tryd.prog Tryd.lays221_ren := {
  mixed := by kernel_rfl
  f138 := Tryd.func130.trans (congrArg some (by kernel_rfl))
  f143 := Tryd.func131.trans (congrArg some (by kernel_rfl))
  f195 := Tryd.func143.trans (congrArg some (by kernel_rfl))
  f197 := Tryd.func144.trans (congrArg some (by kernel_rfl))
  f217 := Tryd.func137.trans (congrArg some (by kernel_rfl))
  f218 := Tryd.func145.trans (congrArg some (by kernel_rfl))
  f219 := Tryd.func124.trans (congrArg some (by kernel_rfl))
  f221 := Tryd.func112.trans (congrArg some (by kernel_rfl))
  f224 := Tryd.func139.trans (congrArg some (by kernel_rfl))
  f225 := Tryd.func138.trans (congrArg some (by kernel_rfl))
  f260 := Tryd.func158.trans (congrArg some (by kernel_rfl))
  f266 := Tryd.func156.trans (congrArg some (by kernel_rfl))
  f267 := Tryd.func140.trans (congrArg some (by kernel_rfl))
  f268 := Tryd.func129.trans (congrArg some (by kernel_rfl))
  f314 := Tryd.func157.trans (congrArg some (by kernel_rfl))
  t0 := Tryd.underlying0
  a0 := Tryd.isAgg0
  z0 := Tryd.sizeOf0
  v0 := Tryd.zeroValue0
  t3 := Tryd.underlying3
  a3 := Tryd.isAgg3
  z3 := Tryd.sizeOf3
  v3 := Tryd.zeroValue3
  t4 := Tryd.underlying4
  a4 := Tryd.isAgg4
  z4 := Tryd.sizeOf4
  v4 := Tryd.zeroValue4
  t5 := Tryd.underlying5
  a5 := Tryd.isAgg5
  z5 := Tryd.sizeOf5
  v5 := Tryd.zeroValue5
  t9 := Tryd.underlying9
  a9 := Tryd.isAgg9
  z9 := Tryd.sizeOf9
  v9 := Tryd.zeroValue9
  t21 := Tryd.underlying21
  a21 := Tryd.isAgg21
  z21 := Tryd.sizeOf21
  v21 := Tryd.zeroValue21
  t31 := Tryd.underlying22
  a31 := Tryd.isAgg22
  z31 := Tryd.sizeOf22
  v31 := Tryd.zeroValue22
  t46 := Tryd.underlying133
  a46 := Tryd.isAgg133
  z46 := Tryd.sizeOf133
  v46 := Tryd.zeroValue133
  t51 := Tryd.underlying149
  a51 := Tryd.isAgg149
  z51 := Tryd.sizeOf149
  v51 := Tryd.zeroValue149
  t105 := Tryd.underlying135
  a105 := Tryd.isAgg135
  z105 := Tryd.sizeOf135
  v105 := Tryd.zeroValue135
  t119 := Tryd.underlying162
  a119 := Tryd.isAgg162
  z119 := Tryd.sizeOf162
  t138 := Tryd.underlying164
  a138 := Tryd.isAgg164
  z138 := Tryd.sizeOf164
  v138 := Tryd.zeroValue164
  t139 := Tryd.underlying165
  a139 := Tryd.isAgg165
  z139 := Tryd.sizeOf165
  v139 := Tryd.zeroValue165
  t146 := Tryd.underlying150
  a146 := Tryd.isAgg150
  z146 := Tryd.sizeOf150
  v146 := Tryd.zeroValue150
  g1 := by kernel_rfl
  g3 := by kernel_rfl
  g4 := by kernel_rfl }
open Go.RowKit Go.Lib in
theorem Tryd.strings_genSplit (s sep : ByteArray) (sv : Nat) (n : Int) (N : Nat) (m : Int) (w : World) (hs : s.size < 4294967281) (hm : w.cell? ⟨0, 0, none⟩ = some (.int .i64 m)) (h1 : 1 ≤ sep.size) (hsv : sv ≤ sep.size) (hn0 : n ≠ 0) (hn63 : n ≤ 9223372036854775807) (hN : (N : Int) = min (if n < 0 then (Lib.countB s sep : Int) + 1 else n) ((s.size : Int) + 1)) :
    Calls Tryd.prog 112 #[.string s, .string sep, .int .i64 sv, .int .i64 n] w fun e w' =>
      e = .returned (.slice (some ⟨w.heap.size, 0, none⟩) (Lib.splitB sep sv (N - 1) s).length N) ∧ w' = w.alloc (.cells (Lib.cellsOf (Lib.splitB sep sv (N - 1) s) N) 9) := Any.strings_genSplit Tryd.lays221 (by kernel_rfl) s sep sv n N m w hs hm h1 hsv hn0 hn63 hN
def Tryd.lays146_ren : Go.Shelf.Ren := ⟨fun | 146 => 77 | 221 => 112 | 268 => 129 | 138 => 130 | 143 => 131 | 195 => 143 | 197 => 144 | 218 => 145 | 219 => 124 | 260 => 158 | 217 => 137 | 225 => 138 | 224 => 139 | 267 => 140 | 266 => 156 | 314 => 157 | n => n, fun | 9 => 9 | 31 => 22 | 3 => 3 | 4 => 4 | 0 => 0 | 105 => 135 | 21 => 21 | 5 => 5 | 46 => 133 | 119 => 162 | 139 => 165 | 138 => 164 | 146 => 150 | 51 => 149 | n => n, fun | 1 => 0 | 3 => 4 | 4 => 5 | n => n⟩
theorem Tryd.lays146 : Go.Proofs.Lays.n146 Tryd.prog Tryd.lays146_ren := {
  mixed := by kernel_rfl
  f138 := Tryd.func130.trans (congrArg some (by kernel_rfl))
  f143 := Tryd.func131.trans (congrArg some (by kernel_rfl))
  f146 := Tryd.func77.trans (congrArg some (by kernel_rfl))
  f195 := Tryd.func143.trans (congrArg some (by kernel_rfl))
  f197 := Tryd.func144.trans (congrArg some (by kernel_rfl))
  f217 := Tryd.func137.trans (congrArg some (by kernel_rfl))
  f218 := Tryd.func145.trans (congrArg some (by kernel_rfl))
  f219 := Tryd.func124.trans (congrArg some (by kernel_rfl))
  f221 := Tryd.func112.trans (congrArg some (by kernel_rfl))
  f224 := Tryd.func139.trans (congrArg some (by kernel_rfl))
  f225 := Tryd.func138.trans (congrArg some (by kernel_rfl))
  f260 := Tryd.func158.trans (congrArg some (by kernel_rfl))
  f266 := Tryd.func156.trans (congrArg some (by kernel_rfl))
  f267 := Tryd.func140.trans (congrArg some (by kernel_rfl))
  f268 := Tryd.func129.trans (congrArg some (by kernel_rfl))
  f314 := Tryd.func157.trans (congrArg some (by kernel_rfl))
  t0 := Tryd.underlying0
  a0 := Tryd.isAgg0
  z0 := Tryd.sizeOf0
  v0 := Tryd.zeroValue0
  t3 := Tryd.underlying3
  a3 := Tryd.isAgg3
  z3 := Tryd.sizeOf3
  v3 := Tryd.zeroValue3
  t4 := Tryd.underlying4
  a4 := Tryd.isAgg4
  z4 := Tryd.sizeOf4
  v4 := Tryd.zeroValue4
  t5 := Tryd.underlying5
  a5 := Tryd.isAgg5
  z5 := Tryd.sizeOf5
  v5 := Tryd.zeroValue5
  t9 := Tryd.underlying9
  a9 := Tryd.isAgg9
  z9 := Tryd.sizeOf9
  v9 := Tryd.zeroValue9
  t21 := Tryd.underlying21
  a21 := Tryd.isAgg21
  z21 := Tryd.sizeOf21
  v21 := Tryd.zeroValue21
  t31 := Tryd.underlying22
  a31 := Tryd.isAgg22
  z31 := Tryd.sizeOf22
  v31 := Tryd.zeroValue22
  t46 := Tryd.underlying133
  a46 := Tryd.isAgg133
  z46 := Tryd.sizeOf133
  v46 := Tryd.zeroValue133
  t51 := Tryd.underlying149
  a51 := Tryd.isAgg149
  z51 := Tryd.sizeOf149
  v51 := Tryd.zeroValue149
  t105 := Tryd.underlying135
  a105 := Tryd.isAgg135
  z105 := Tryd.sizeOf135
  v105 := Tryd.zeroValue135
  t119 := Tryd.underlying162
  a119 := Tryd.isAgg162
  z119 := Tryd.sizeOf162
  t138 := Tryd.underlying164
  a138 := Tryd.isAgg164
  z138 := Tryd.sizeOf164
  v138 := Tryd.zeroValue164
  t139 := Tryd.underlying165
  a139 := Tryd.isAgg165
  z139 := Tryd.sizeOf165
  v139 := Tryd.zeroValue165
  t146 := Tryd.underlying150
  a146 := Tryd.isAgg150
  z146 := Tryd.sizeOf150
  v146 := Tryd.zeroValue150
  g1 := by kernel_rfl
  g3 := by kernel_rfl
  g4 := by kernel_rfl }
open Go.RowKit Go.Lib in
/-- strings.Split. (LAID: no walk: one application.) -/
theorem Tryd.strings_Split (s sep : ByteArray) (m : Int) (w : World) (hs : s.size < 4294967281) (hm : w.cell? ⟨0, 0, none⟩ = some (.int .i64 m)) (h1 : 1 ≤ sep.size) :
    Calls Tryd.prog 77 #[.string s, .string sep] w fun e w' =>
      e = .returned (.slice (some ⟨w.heap.size, 0, none⟩) (Lib.countB s sep + 1) (Lib.countB s sep + 1)) ∧ w' = w.alloc (.cells ((Lib.splitB sep 0 (Lib.countB s sep) s).map Value.string).toArray 9) := Any.strings_Split Tryd.lays146 (by kernel_rfl) s sep m w hs hm h1
def Tryd.laysM146_ren : Go.Shelf.Ren := ⟨fun | 146 => 77 | 221 => 112 | 268 => 129 | 138 => 130 | 143 => 131 | 195 => 143 | 197 => 144 | 218 => 145 | 219 => 124 | 260 => 158 | 217 => 137 | 225 => 138 | 224 => 139 | 267 => 140 | 266 => 156 | 314 => 157 | n => n, fun | 9 => 9 | 31 => 22 | 3 => 3 | 4 => 4 | 0 => 0 | 105 => 135 | 21 => 21 | 5 => 5 | 46 => 133 | 119 => 162 | 139 => 165 | 138 => 164 | 146 => 150 | 51 => 149 | n => n, fun | 1 => 0 | 3 => 4 | 4 => 5 | n => n⟩
theorem Tryd.laysM146 : Go.Proofs.LaysM.n146 Tryd.prog Tryd.laysM146_ren := {
  mixed := by kernel_rfl
  f138 := Tryd.func130.trans (congrArg some (by kernel_rfl))
  f143 := Tryd.func131.trans (congrArg some (by kernel_rfl))
  f146 := Tryd.func77.trans (congrArg some (by kernel_rfl))
  f195 := Tryd.func143.trans (congrArg some (by kernel_rfl))
  f197 := Tryd.func144.trans (congrArg some (by kernel_rfl))
  f217 := Tryd.func137.trans (congrArg some (by kernel_rfl))
  f218 := Tryd.func145.trans (congrArg some (by kernel_rfl))
  f219 := Tryd.func124.trans (congrArg some (by kernel_rfl))
  f221 := Tryd.func112.trans (congrArg some (by kernel_rfl))
  f224 := Tryd.func139.trans (congrArg some (by kernel_rfl))
  f225 := Tryd.func138.trans (congrArg some (by kernel_rfl))
  f260 := Tryd.func158.trans (congrArg some (by kernel_rfl))
  f266 := Tryd.func156.trans (congrArg some (by kernel_rfl))
  f267 := Tryd.func140.trans (congrArg some (by kernel_rfl))
  f268 := Tryd.func129.trans (congrArg some (by kernel_rfl))
  f314 := Tryd.func157.trans (congrArg some (by kernel_rfl))
  t0 := Tryd.underlying0
  a0 := Tryd.isAgg0
  z0 := Tryd.sizeOf0
  v0 := Tryd.zeroValue0
  t3 := Tryd.underlying3
  a3 := Tryd.isAgg3
  z3 := Tryd.sizeOf3
  v3 := Tryd.zeroValue3
  t4 := Tryd.underlying4
  a4 := Tryd.isAgg4
  z4 := Tryd.sizeOf4
  v4 := Tryd.zeroValue4
  t5 := Tryd.underlying5
  a5 := Tryd.isAgg5
  z5 := Tryd.sizeOf5
  v5 := Tryd.zeroValue5
  t9 := Tryd.underlying9
  a9 := Tryd.isAgg9
  z9 := Tryd.sizeOf9
  v9 := Tryd.zeroValue9
  t21 := Tryd.underlying21
  a21 := Tryd.isAgg21
  z21 := Tryd.sizeOf21
  v21 := Tryd.zeroValue21
  t31 := Tryd.underlying22
  a31 := Tryd.isAgg22
  z31 := Tryd.sizeOf22
  v31 := Tryd.zeroValue22
  t46 := Tryd.underlying133
  a46 := Tryd.isAgg133
  z46 := Tryd.sizeOf133
  v46 := Tryd.zeroValue133
  t51 := Tryd.underlying149
  a51 := Tryd.isAgg149
  z51 := Tryd.sizeOf149
  v51 := Tryd.zeroValue149
  t105 := Tryd.underlying135
  a105 := Tryd.isAgg135
  z105 := Tryd.sizeOf135
  v105 := Tryd.zeroValue135
  t119 := Tryd.underlying162
  a119 := Tryd.isAgg162
  z119 := Tryd.sizeOf162
  t138 := Tryd.underlying164
  a138 := Tryd.isAgg164
  z138 := Tryd.sizeOf164
  v138 := Tryd.zeroValue164
  t139 := Tryd.underlying165
  a139 := Tryd.isAgg165
  z139 := Tryd.sizeOf165
  v139 := Tryd.zeroValue165
  t146 := Tryd.underlying150
  a146 := Tryd.isAgg150
  z146 := Tryd.sizeOf150
  v146 := Tryd.zeroValue150
  g1 := by kernel_rfl
  g3 := by kernel_rfl
  g4 := by kernel_rfl
  i0 := by kernel_rfl
  i3 := by kernel_rfl
  i4 := by kernel_rfl
  i5 := by kernel_rfl
  i9 := by kernel_rfl
  i21 := by kernel_rfl
  i31 := by kernel_rfl
  i46 := by kernel_rfl
  i51 := by kernel_rfl
  i105 := by kernel_rfl
  i138 := by kernel_rfl
  i139 := by kernel_rfl
  i146 := by kernel_rfl
  m1 := by kernel_rfl
  s1_3 := fun w h => Go.Proofs.cell_of_shapedOpen_int (zero := #[.int .i64 0]) (t := 3) h (of_decide_eq_true (by kernel_rfl)) (by kernel_rfl) rfl (by kernel_rfl) (by kernel_rfl) Tryd.underlying3
  m3 := by kernel_rfl
  m4 := by kernel_rfl }
open Go.RowKit Go.Lib in
/-- strings.Split, sep not empty. (LAID: no walk: one application.) -/
theorem Tryd.strings_Split_shaped (s sep : ByteArray) (w : World) (h : w.ShapedOpen Tryd.prog) (hs : s.size < 4294967281) (h1 : 1 ≤ sep.size) :
    Calls Tryd.prog 77 #[.string s, .string sep] w fun e w' =>
      e = .returned (.slice (some ⟨w.heap.size, 0, none⟩) (Lib.countB s sep + 1) (Lib.countB s sep + 1)) ∧ w' = w.alloc (.cells ((Lib.splitB sep 0 (Lib.countB s sep) s).map Value.string).toArray 9) := Any.strings_Split_shaped Tryd.laysM146 s sep w h hs h1
def Tryd.lays197_ren : Go.Shelf.Ren := ⟨fun | 197 => 144 | 260 => 158 | n => n, fun | 9 => 9 | 21 => 21 | 3 => 3 | 4 => 4 | 5 => 5 | 105 => 135 | 119 => 162 | 0 => 0 | 46 => 133 | 139 => 165 | 138 => 164 | n => n, fun | 3 => 4 | 4 => 5 | n => n⟩
theorem Tryd.lays197 : Go.Proofs.Lays.n197 Tryd.prog Tryd.lays197_ren := {
  mixed := by kernel_rfl
  f197 := Tryd.func144.trans (congrArg some (by kernel_rfl))
  f260 := Tryd.func158.trans (congrArg some (by kernel_rfl))
  t0 := Tryd.underlying0
  a0 := Tryd.isAgg0
  z0 := Tryd.sizeOf0
  v0 := Tryd.zeroValue0
  t3 := Tryd.underlying3
  a3 := Tryd.isAgg3
  z3 := Tryd.sizeOf3
  v3 := Tryd.zeroValue3
  t4 := Tryd.underlying4
  a4 := Tryd.isAgg4
  z4 := Tryd.sizeOf4
  v4 := Tryd.zeroValue4
  t5 := Tryd.underlying5
  a5 := Tryd.isAgg5
  z5 := Tryd.sizeOf5
  v5 := Tryd.zeroValue5
  t9 := Tryd.underlying9
  a9 := Tryd.isAgg9
  z9 := Tryd.sizeOf9
  v9 := Tryd.zeroValue9
  t21 := Tryd.underlying21
  a21 := Tryd.isAgg21
  z21 := Tryd.sizeOf21
  v21 := Tryd.zeroValue21
  t46 := Tryd.underlying133
  a46 := Tryd.isAgg133
  z46 := Tryd.sizeOf133
  v46 := Tryd.zeroValue133
  t105 := Tryd.underlying135
  a105 := Tryd.isAgg135
  z105 := Tryd.sizeOf135
  v105 := Tryd.zeroValue135
  t119 := Tryd.underlying162
  a119 := Tryd.isAgg162
  z119 := Tryd.sizeOf162
  t138 := Tryd.underlying164
  a138 := Tryd.isAgg164
  z138 := Tryd.sizeOf164
  v138 := Tryd.zeroValue164
  t139 := Tryd.underlying165
  a139 := Tryd.isAgg165
  z139 := Tryd.sizeOf165
  v139 := Tryd.zeroValue165
  g3 := by kernel_rfl
  g4 := by kernel_rfl }
open Go.RowKit Go.Lib in
/-- unicode/utf8.DecodeRuneInString: "DecodeRuneInString is like DecodeRune but its input is a string.": ("DecodeRune unpacks the first UTF-8 encoding in p and returns the rune and its width in bytes."): WHERE s BEGINS WITH AN ASCII BYTE x: (x, 1). (LAID: no walk: one application.) -/
theorem Tryd.utf8_DecodeRuneInString_ascii (s : ByteArray) (x : UInt8) (w : World) (h0 : s.data.toList[0]? = some x) (hx : x.toNat < 128) :
    Calls Tryd.prog 144 #[.string s] w fun e w' => e = .returned (.tuple #[.int .i32 x.toNat, .int .i64 1]) ∧ w' = w := Any.utf8_DecodeRuneInString_ascii Tryd.lays197 s x w h0 hx
open Go.RowKit Go.Lib in
theorem Tryd.utf8_RuneCountInString_ascii (s : ByteArray) (w : World) (hs : s.size < 4294967281) (hascii : ∀ (j : Nat) b, s.data.toList[j]? = some b → b.toNat < 128) :
    Calls Tryd.prog 143 #[.string s] w fun e w' => e = .returned (.int .i64 s.size) ∧ w' = w.iter s s.size := Any.utf8_RuneCountInString_ascii Tryd.lays195 s w hs hascii
def Tryd.lays268_ren : Go.Shelf.Ren := ⟨fun | 268 => 129 | 195 => 143 | 197 => 144 | 260 => 158 | n => n, fun | 9 => 9 | 3 => 3 | 31 => 22 | 4 => 4 | 105 => 135 | 21 => 21 | 0 => 0 | 5 => 5 | 119 => 162 | 46 => 133 | 139 => 165 | 138 => 164 | n => n, fun | 3 => 4 | 4 => 5 | n => n⟩
theorem Tryd.lays268 : Go.Proofs.Lays.n268 Tryd.prog Tryd.lays268_ren := {
  mixed := by kernel_rfl
  f195 := Tryd.func143.trans (congrArg some (by kernel_rfl))
  f197 := Tryd.func144.trans (congrArg some (by kernel_rfl))
  f260 := Tryd.func158.trans (congrArg some (by kernel_rfl))
  f268 := Tryd.func129.trans (congrArg some (by kernel_rfl))
  t0 := Tryd.underlying0
  a0 := Tryd.isAgg0
  z0 := Tryd.sizeOf0
  v0 := Tryd.zeroValue0
  t3 := Tryd.underlying3
  a3 := Tryd.isAgg3
  z3 := Tryd.sizeOf3
  v3 := Tryd.zeroValue3
  t4 := Tryd.underlying4
  a4 := Tryd.isAgg4
  z4 := Tryd.sizeOf4
  v4 := Tryd.zeroValue4
  t5 := Tryd.underlying5
  a5 := Tryd.isAgg5
  z5 := Tryd.sizeOf5
  v5 := Tryd.zeroValue5
  t9 := Tryd.underlying9
  a9 := Tryd.isAgg9
  z9 := Tryd.sizeOf9
  v9 := Tryd.zeroValue9
  t21 := Tryd.underlying21
  a21 := Tryd.isAgg21
  z21 := Tryd.sizeOf21
  v21 := Tryd.zeroValue21
  t31 := Tryd.underlying22
  a31 := Tryd.isAgg22
  z31 := Tryd.sizeOf22
  v31 := Tryd.zeroValue22
  t46 := Tryd.underlying133
  a46 := Tryd.isAgg133
  z46 := Tryd.sizeOf133
  v46 := Tryd.zeroValue133
  t105 := Tryd.underlying135
  a105 := Tryd.isAgg135
  z105 := Tryd.sizeOf135
  v105 := Tryd.zeroValue135
  t119 := Tryd.underlying162
  a119 := Tryd.isAgg162
  z119 := Tryd.sizeOf162
  t138 := Tryd.underlying164
  a138 := Tryd.isAgg164
  z138 := Tryd.sizeOf164
  v138 := Tryd.zeroValue164
  t139 := Tryd.underlying165
  a139 := Tryd.isAgg165
  z139 := Tryd.sizeOf165
  v139 := Tryd.zeroValue165
  g3 := by kernel_rfl
  g4 := by kernel_rfl }
open Go.RowKit Go.Lib in
theorem Tryd.strings_explode_all (s : ByteArray) (n : Int) (w : World) (hn : n < 0) (hs : s.size < 4294967281) (hascii : ∀ (j : Nat) b, s.data.toList[j]? = some b → b.toNat < 128) :
    Calls Tryd.prog 129 #[.string s, .int .i64 n] w fun e w' =>
      e = .returned (.slice (some ⟨(w.iter s s.size).heap.size, 0, none⟩) s.size s.size) ∧ w' = (w.iter s s.size).alloc (.cells ((Lib.charsB s).map Value.string).toArray 9) := Any.strings_explode_all Tryd.lays268 (by kernel_rfl) s n w hn hs hascii
open Go.RowKit Go.Lib in
/-- strings.genSplit at sep == "", n < 0: 'return explode(s, n)'. (LAID: no walk: one application.) -/
theorem Tryd.strings_genSplit_chars (s sep : ByteArray) (sv n : Int) (w : World) (h0 : sep.size = 0) (hn : n < 0) (hs : s.size < 4294967281) (hascii : ∀ (j : Nat) b, s.data.toList[j]? = some b → b.toNat < 128) :
    Calls Tryd.prog 112 #[.string s, .string sep, .int .i64 sv, .int .i64 n] w fun e w' =>
      e = .returned (.slice (some ⟨(w.iter s s.size).heap.size, 0, none⟩) s.size s.size) ∧ w' = (w.iter s s.size).alloc (.cells ((Lib.charsB s).map Value.string).toArray 9) := Any.strings_genSplit_chars Tryd.lays221 (by kernel_rfl) s sep sv n w h0 hn hs hascii
open Go.RowKit Go.Lib in
/-- strings.Split(s, ""), s ASCII: a piece a byte. (LAID: no walk: one application.) -/
theorem Tryd.strings_Split_chars (s sep : ByteArray) (w : World) (h0 : sep.size = 0) (hs : s.size < 4294967281) (hascii : ∀ (j : Nat) b, s.data.toList[j]? = some b → b.toNat < 128) :
    Calls Tryd.prog 77 #[.string s, .string sep] w fun e w' =>
      e = .returned (.slice (some ⟨(w.iter s s.size).heap.size, 0, none⟩) s.size s.size) ∧ w' = (w.iter s s.size).alloc (.cells ((Lib.charsB s).map Value.string).toArray 9) := Any.strings_Split_chars Tryd.lays146 (by kernel_rfl) s sep w h0 hs hascii
def Tryd.lays260_ren : Go.Shelf.Ren := ⟨fun | 260 => 158 | n => n, fun | 9 => 9 | 21 => 21 | 3 => 3 | 4 => 4 | 5 => 5 | 119 => 162 | 0 => 0 | 46 => 133 | 139 => 165 | 138 => 164 | n => n, fun | 3 => 4 | 4 => 5 | n => n⟩
theorem Tryd.lays260 : Go.Proofs.Lays.n260 Tryd.prog Tryd.lays260_ren := {
  mixed := by kernel_rfl
  f260 := Tryd.func158.trans (congrArg some (by kernel_rfl))
  t0 := Tryd.underlying0
  a0 := Tryd.isAgg0
  z0 := Tryd.sizeOf0
  v0 := Tryd.zeroValue0
  t3 := Tryd.underlying3
  a3 := Tryd.isAgg3
  z3 := Tryd.sizeOf3
  v3 := Tryd.zeroValue3
  t4 := Tryd.underlying4
  a4 := Tryd.isAgg4
  z4 := Tryd.sizeOf4
  v4 := Tryd.zeroValue4
  t5 := Tryd.underlying5
  a5 := Tryd.isAgg5
  z5 := Tryd.sizeOf5
  v5 := Tryd.zeroValue5
  t9 := Tryd.underlying9
  a9 := Tryd.isAgg9
  z9 := Tryd.sizeOf9
  v9 := Tryd.zeroValue9
  t21 := Tryd.underlying21
  a21 := Tryd.isAgg21
  z21 := Tryd.sizeOf21
  v21 := Tryd.zeroValue21
  t46 := Tryd.underlying133
  a46 := Tryd.isAgg133
  z46 := Tryd.sizeOf133
  v46 := Tryd.zeroValue133
  t119 := Tryd.underlying162
  a119 := Tryd.isAgg162
  z119 := Tryd.sizeOf162
  t138 := Tryd.underlying164
  a138 := Tryd.isAgg164
  z138 := Tryd.sizeOf164
  v138 := Tryd.zeroValue164
  t139 := Tryd.underlying165
  a139 := Tryd.isAgg165
  z139 := Tryd.sizeOf165
  v139 := Tryd.zeroValue165
  g3 := by kernel_rfl
  g4 := by kernel_rfl }
open Go.RowKit Go.Lib in
theorem Tryd.utf8_decodeRuneInStringSlow (s : ByteArray) (w : World) (hT : Lib.Utf8Tabs 4 5 w) :
    Calls Tryd.prog 158 #[.string s] w fun e w' => e = .returned (.tuple #[.int .i32 (Lib.decodeGo s).1, .int .i64 (Lib.decodeGo s).2]) ∧ Below w.heap.size w w' := Any.utf8_decodeRuneInStringSlow Tryd.lays260 s w hT
open Go.RowKit Go.Lib in
/-- **unicode/utf8.DecodeRuneInString AT EVERY STRING.** (LAID: no walk: one application.) -/
theorem Tryd.utf8_DecodeRuneInString (s : ByteArray) (w : World) (hT : Lib.Utf8Tabs 4 5 w) :
    Calls Tryd.prog 144 #[.string s] w fun e w' => e = .returned (.tuple #[.int .i32 (Lib.decodeGo s).1, .int .i64 (Lib.decodeGo s).2]) ∧ Below w.heap.size w w' := Any.utf8_DecodeRuneInString Tryd.lays197 s w hT
end Go.Proofs

/- Paths and trails as texts; the law 'TrailShow'. -/
set_option linter.unusedVariables false
set_option linter.unusedSimpArgs false
namespace Go.Proofs.YtkblkdnnncklgaaDoor
open Go Go.Av Go.RowKit

/-- A path as a text, as rounds make it. -/
def shN : List ByteArray → ByteArray
  | [] => ⟨#[]⟩
  | p :: r => ⟨#[47]⟩ ++ p ++ shN r
theorem shN_snoc : ∀ (r : List ByteArray) (p : ByteArray), shN (r ++ [p]) = shN r ++ ⟨#[47]⟩ ++ p
  | [], p => by
    apply bl_inj
    simp [shN, bl_append]
  | q :: r, p => by
    apply bl_inj
    simp [shN, shN_snoc r p, bl_append]
theorem shN_size : ∀ (r : List ByteArray), (shN r).size = r.length + sumS r
  | [] => rfl
  | p :: r => by
    simp only [shN, ByteArray.size_append, shN_size r, List.length_cons, sumS]
    show 1 + _ + _ = _; omega
def pathT (ps : List ByteArray) : ByteArray := if ps = [] then ⟨#[47]⟩ else shN ps
theorem pathT_size (ps : List ByteArray) : (pathT ps).size ≤ 1 + ps.length + sumS ps := by
  unfold pathT
  split
  · show 1 ≤ _; omega
  · rw [shN_size]; omega
theorem shN_join : ∀ (p : ByteArray) (r : List ByteArray), shN (p :: r) = ⟨#[47]⟩ ++ ofL (Lib.join ((p :: r).map bl) [47]) := by
  intro p r
  apply bl_inj
  have e : ∀ r : List ByteArray, bl (shN r) = Lib.joinTail [47] (r.map bl) := by
    intro r
    induction r with
    | nil => rfl
    | cons q r ih =>
      simp only [shN, bl_append, ih, Lib.joinTail, List.map_cons, List.flatten_cons]
  rw [List.map_cons, Lib.join_cons, shN, bl_append, bl_append, e, bl_append, bl_ofL, List.append_assoc]
def markX (m : Mk) : ByteArray := (if m.2 = true then (⟨#[115, 117, 98, 32]⟩ : ByteArray) else ⟨#[97, 116, 32]⟩) ++ pathT m.1 ++ ⟨#[10]⟩
theorem markX_size (m : Mk) : (markX m).size ≤ 6 + szMk m := by
  have := pathT_size m.1
  unfold markX szMk
  rw [ByteArray.size_append, ByteArray.size_append]
  split
  · show 4 + _ + 1 ≤ _; omega
  · show 3 + _ + 1 ≤ _; omega
def marksX (ms : List Mk) : ByteArray := ms.foldl (fun a m => a ++ markX m) ⟨#[]⟩
theorem marksX_snoc (ms : List Mk) (m : Mk) : marksX (ms ++ [m]) = marksX ms ++ markX m := by simp [marksX, List.foldl_append]
theorem marksX_take {ms : List Mk} {j : Nat} {m : Mk} (hj : ms[j]? = some m) : marksX (ms.take (j + 1)) = marksX (ms.take j) ++ markX m := by
  rw [List.take_add_one, hj]; exact marksX_snoc _ _
theorem marksX_size {ms : List Mk} : ∀ (j : Nat), (marksX (ms.take j)).size ≤ 6 * j + sumBy szMk (ms.take j)
  | 0 => by simp [marksX, sumBy, ByteArray.size]
  | j + 1 => by
    have ih := marksX_size (ms := ms) j
    cases h : ms[j]? with
    | none =>
      have hl : ms.length ≤ j := List.getElem?_eq_none_iff.1 h
      rw [List.take_of_length_le hl] at ih
      rw [List.take_of_length_le (by omega)]; omega
    | some m =>
      rw [marksX_take h, sumBy_take h, ByteArray.size_append]
      have := markX_size m; omega
noncomputable def showM (ms : List Mk) : ByteArray := if trailOk ms = true then marksX ms else ⟨#[]⟩

section
variable {w0 : World} {σ : Vw}

theorem strings_Join {v : Value} {p : ByteArray} {r : List ByteArray} (h : RSl 1 RS (Av.get w0 σ) v (p :: r)) (hb : (p :: r).length + sumS (p :: r) ≤ 1000000000) {R : Value → Vw → Prop} (hR : R (.string (ofL (Lib.join ((p :: r).map bl) [47]))) σ) : AC Tryd.prog w0 n_strings_Join [v, .string ⟨#[47]⟩] σ R := by
  refine AC.of_calls is_strings_Join fun w hw => ?_
  obtain ⟨A, cap, rfl, hc, h3⟩ := h
  have cell : ∀ (j : Nat) (x : ByteArray), (p :: r)[j]? = some x → ∃ a, A = some a ∧ w.cell? (a.add j) = some (.string x) := fun j x hj => by
    obtain ⟨a, es, e1, e2, e3, e4⟩ := h3 j x hj
    obtain ⟨rfl, _⟩ := e4
    refine ⟨a, e1, ?_⟩
    have := e3 0 (by omega)
    rw [show j * 1 + 0 = j by omega] at this
    exact hw.get this
  obtain ⟨⟨bk, o, sp⟩, rfl, h0⟩ := cell 0 p rfl
  have hsp : sp = none := by
    cases sp with
    | none => rfl
    | some q =>
      simp only [Addr.add, if_true, World.cell?] at h0
      split at h0 <;> simp at h0
  subst hsp
  have hcells : ∀ (j : Nat) (x : ByteArray), (p :: r)[j]? = some x → w.cell? ⟨bk, o + j, none⟩ = some (.string x) := fun j x hj => by
    obtain ⟨a, e1, e2⟩ := cell j x hj
    cases e1
    rwa [addr_add] at e2
  have hbk : bk < w.heap.size := by
    rcases Nat.lt_or_ge bk w.heap.size with h' | h'
    · exact h'
    · simp [Addr.add, World.cell?, Array.getElem?_eq_none h'] at h0
  have hj : (Lib.join ((p :: r).map bl) [47]).length ≤ 140737488355328 := by
    have e := congrArg ByteArray.size (shN_join p r)
    rw [shN_size, ByteArray.size_append, size_ofL] at e
    omega
  refine (Tryd.strings_Join bk o cap (p :: r) ⟨#[47]⟩ w hcells hbk (by omega) hc.1 hj).mono ?_
  rintro e w' ⟨rfl, k⟩
  exact ⟨_, rfl, hR, k⟩

theorem spec_l3Name {v : Value} {ps : List ByteArray} (h : RSl 1 RS (Av.get w0 σ) v ps) (hb : ps.length + sumS ps ≤ 1000000000) {R : Value → Vw → Prop} (hR : R (.string (pathT ps)) σ) : AC Tryd.prog w0 n_spec_l3Name [v] σ R := by
  refine ac_spec_l3Name ?_
  unfold vc_spec_l3Name
  have hl := h.le
  refine loop_rule (m := ps.length) (fun m l s => ∃ j : Nat, s = σ ∧ m + j = ps.length ∧ l = [v, .string (shN (ps.take j)), .int .i64 (j : Nat)]) ?_ ⟨0, rfl, by omega, rfl⟩
  rintro m l s L ⟨j, rfl, hm, rfl⟩ hL
  simp only [vget, List.getD_cons_zero, List.getD_cons_succ]
  have hsz := shN_size (ps.take j)
  have hle := sumS_le (xs := ps) j
  have hlt := List.length_take_le j ps
  rw [h.len, pBin_lt, pIf_d]
  refine ⟨fun hi => ?_, fun hi => ?_⟩
  · have hx := List.getElem?_eq_getElem (show j < ps.length by omega)
    generalize hxi : ps[j]'(by omega) = y at hx
    have hs1 := sumS_take hx
    have hs2 := sumS_le (xs := ps) (j + 1)
    rw [List.length_take] at hsz
    rw [pBin_cat (by show _ + 1 ≤ _; omega)]
    refine RSl.at1 h hx fun g hg hs => ?_
    rw [hg, pBin_cat (by rw [ByteArray.size_append]; show _ + 1 + _ ≤ _; omega), pBin_add (by omega)]
    refine hL _ _ (m - 1) (by omega) ⟨j + 1, rfl, by omega, ?_⟩
    rw [List.take_add_one, hx, Option.toList_some, shN_snoc]; simp
  · have e : j = ps.length := by omega
    subst e
    rw [List.take_length]
    show pBin Tryd.prog 9 .eql (.string (shN ps)) (.string ⟨#[]⟩) _
    rw [pBin_seq, pIf_d]
    have he : shN ps = ⟨#[]⟩ ↔ ps = [] := by
      constructor
      · intro he
        have := shN_size ps
        rw [he] at this
        have h0 : (⟨#[]⟩ : ByteArray).size = 0 := rfl
        exact List.eq_nil_of_length_eq_zero (by omega)
      · rintro rfl; rfl
    refine ⟨fun hh => ?_, fun hh => ?_⟩
    · rw [pathT, if_pos (he.1 hh)] at hR; exact hR
    · rw [pathT, if_neg (fun e => hh (he.2 e))] at hR; exact hR

theorem impl_pathText {v : Value} {ps : List ByteArray} (h : RSl 1 RS (Av.get w0 σ) v ps) (hb : ps.length + sumS ps ≤ 1000000000) {R : Value → Vw → Prop} (hR : R (.string (pathT ps)) σ) : AC Tryd.prog w0 n_impl_pathText [v] σ R := by
  refine ac_impl_pathText ?_
  unfold vc_impl_pathText
  rw [h.len, pBin_eq, pIf_d]
  refine ⟨fun hi => ?_, fun hi => ?_⟩
  · have e : ps = [] := List.eq_nil_of_length_eq_zero (by omega)
    rw [pathT, if_pos e] at hR; exact hR
  · cases ps with
    | nil => exact absurd rfl hi
    | cons p r =>
      refine strings_Join h hb ?_
      have e := shN_join p r
      have e2 := congrArg ByteArray.size e
      rw [shN_size, ByteArray.size_append] at e2
      rw [pBin_cat (by omega), ← e]
      rw [pathT, if_neg (by simp)] at hR; exact hR

theorem spec_l11Text {es : List Value} {m : Mk} (h : RMk (Av.get w0 σ) es m) (hb : szMk m ≤ 1000000000) {R : Value → Vw → Prop} (hR : R (.string (markX m)) σ) : AC Tryd.prog w0 n_spec_l11Text [.agg ⟨es⟩] σ R := by
  obtain ⟨v, rfl, h2⟩ := h
  have hp := pathT_size m.1
  have hb' : m.1.length + sumS m.1 ≤ 1000000000 := hb
  refine ac_spec_l11Text ?_
  unfold vc_spec_l11Text
  rw [pVal_2 h2.one rfl]
  simp only [cellOf_agg, List.getD_cons_zero, List.getD_cons_succ]
  rw [pIf_b]
  refine ⟨fun hm => ?_, fun hm => ?_⟩
  · refine spec_l3Name h2 hb' ?_
    rw [pBin_cat (by show 4 + _ ≤ _; omega), pBin_cat (by rw [ByteArray.size_append]; show 4 + _ + 1 ≤ _; omega)]
    rw [markX, if_pos hm] at hR; exact hR
  · refine spec_l3Name h2 hb' ?_
    rw [pBin_cat (by show 3 + _ ≤ _; omega), pBin_cat (by rw [ByteArray.size_append]; show 3 + _ + 1 ≤ _; omega)]
    rw [markX, if_neg (by rw [hm]; simp)] at hR; exact hR

theorem spec_TrailShow {v : Value} {ms : List Mk} (h : RSl 2 RMk (Av.get w0 σ) v ms) (hb : ms.length + sumBy szMk ms ≤ 100000000) {R : Value → Vw → Prop} (hR : R (.string (showM ms)) σ) : AC Tryd.prog w0 n_spec_TrailShow [v] σ R := by
  refine ac_spec_TrailShow ?_
  unfold vc_spec_TrailShow
  refine spec_TrailOk h ?_
  rw [pUn_not, pIf_b]
  refine ⟨fun hn => ?_, fun hn => ?_⟩
  · rw [showM, if_neg (by simp at hn; rw [hn]; simp)] at hR; exact hR
  rw [showM, if_pos (by simpa using hn)] at hR
  refine loop_rule (m := ms.length) (fun m l s => ∃ j : Nat, s = σ ∧ m + j = ms.length ∧ l = [v, .string (marksX (ms.take j)), .int .i64 (j : Nat)]) ?_ ⟨0, rfl, by omega, rfl⟩
  rintro m l s L ⟨j, rfl, hm, rfl⟩ hL
  simp only [vget, List.getD_cons_zero, List.getD_cons_succ]
  have hsz := marksX_size (ms := ms) j
  have hle := sumBy_le (f := szMk) (xs := ms) j
  rw [h.len, pBin_lt, pIf_d]
  refine ⟨fun hi => ?_, fun hi => ?_⟩
  · have hx := List.getElem?_eq_getElem (show j < ms.length by omega)
    generalize hxi : ms[j]'(by omega) = y at hx
    have hy := sumBy_mem (f := szMk) (List.mem_of_getElem? hx)
    have hyx := markX_size y
    refine h.at hx fun g hg => ?_
    refine spec_l11Text (es := expl g 0 2) hg (by omega) ?_
    rw [pBin_cat (by omega), pBin_add (by omega)]
    refine hL _ _ (m - 1) (by omega) ⟨j + 1, rfl, by omega, ?_⟩
    rw [marksX_take hx]; simp
  · have e : j = ms.length := by omega
    subst e
    rw [List.take_length]
    exact hR

theorem impl_TrailShow {v : Value} {ms : List Mk} (h : RSl 2 RMk (Av.get w0 σ) v ms) (hb : ms.length + sumBy szMk ms ≤ 100000000) {R : Value → Vw → Prop} (hR : R (.string (showM ms)) σ) : AC Tryd.prog w0 n_impl_TrailShow [v] σ R := by
  refine ac_impl_TrailShow ?_
  unfold vc_impl_TrailShow
  refine impl_TrailOk h ?_
  rw [pUn_not, pIf_b]
  refine ⟨fun hn => ?_, fun hn => ?_⟩
  · rw [showM, if_neg (by simp at hn; rw [hn]; simp)] at hR; exact hR
  rw [showM, if_pos (by simpa using hn)] at hR
  rw [h.len]
  refine loop_rule (m := ms.length) (fun m l s => ∃ j : Nat, s = σ ∧ m + j = ms.length ∧ l = [.string (marksX (ms.take j)), v, .int .i64 (ms.length : Nat), .int .i64 (j : Nat)]) ?_ ⟨0, rfl, by omega, rfl⟩
  rintro m l s L ⟨j, rfl, hm, rfl⟩ hL
  simp only [vget, List.getD_cons_zero, List.getD_cons_succ]
  have hsz := marksX_size (ms := ms) j
  have hle := sumBy_le (f := szMk) (xs := ms) j
  rw [pBin_lt, pIf_d]
  refine ⟨fun hi => ?_, fun hi => ?_⟩
  · have hx := List.getElem?_eq_getElem (show j < ms.length by omega)
    generalize hxi : ms[j]'(by omega) = y at hx
    have hy := sumBy_mem (f := szMk) (List.mem_of_getElem? hx)
    have hyx := markX_size y
    have hps := pathT_size y.1
    refine h.at hx fun g hg => ?_
    obtain ⟨u, hg, h2⟩ := hg
    simp only [expl, List.cons.injEq, and_true] at hg
    obtain ⟨g0, g1⟩ := hg
    rw [g0, g1, pVal_2 h2.one rfl, pIf_b]
    have hyb : y.1.length + sumS y.1 = szMk y := rfl
    refine ⟨fun hm => ?_, fun hm => ?_⟩
    · refine impl_pathText h2 (by omega) ?_
      have e : markX y = ⟨#[115, 117, 98, 32]⟩ ++ pathT y.1 ++ ⟨#[10]⟩ := by rw [markX, if_pos hm]
      rw [pBin_cat (by show 4 + _ ≤ _; omega), pBin_cat (by rw [ByteArray.size_append]; show 4 + _ + 1 ≤ _; omega), ← e, pBin_cat (by omega), pBin_add (by omega)]
      refine hL _ _ (m - 1) (by omega) ⟨j + 1, rfl, by omega, ?_⟩
      rw [marksX_take hx]; simp
    · refine impl_pathText h2 (by omega) ?_
      have e : markX y = ⟨#[97, 116, 32]⟩ ++ pathT y.1 ++ ⟨#[10]⟩ := by rw [markX, if_neg (by rw [hm]; simp)]
      rw [pBin_cat (by show 3 + _ ≤ _; omega), pBin_cat (by rw [ByteArray.size_append]; show 3 + _ + 1 ≤ _; omega), ← e, pBin_cat (by omega), pBin_add (by omega)]
      refine hL _ _ (m - 1) (by omega) ⟨j + 1, rfl, by omega, ?_⟩
      rw [marksX_take hx]; simp
  · have e : j = ms.length := by omega
    subst e
    rw [List.take_length]
    exact hR

end
end Go.Proofs.YtkblkdnnncklgaaDoor

/- Rows of our own: cells stored, an element taken out in place, the copy of two lists in any order. -/
set_option linter.unusedVariables false
set_option linter.unusedSimpArgs false
namespace Go.Av
open Go Go.RowKit

section
variable {P : Program} {w0 : World} {σ σ' : Vw} {α γ : Type}

theorem cell_store {b o : Nat} {r : Row} {A c C new : List Value} {K : Vw → Prop} (hr : σ b = some r) (hc : r.cells = A ++ (c ++ C)) (hA : A.length = o) (hl : c.length = new.length)
    (hK : K (σ.put b { r with cells := A ++ (new ++ C) })) : pStore (.pointer (some ⟨b, o, none⟩)) new σ K := by
  refine ⟨b, o, r, rfl, hr, by rw [hc]; simp only [List.length_append]; omega, ?_⟩
  rw [hc, ← hA, setAt_mid A c new C hl]
  exact hK

/-- An element of a list of our own is written, all its cells. -/
theorem OSl.store {n : Nat} {Rel : (Addr → Option Value) → List Value → α → Prop} {O : Vw → List Nat → List Value → α → Prop} (ok : OOk w0 n Rel O) {F : List Nat} {v : Value} {xs : List α} (h : OSl w0 n O σ F v xs) {j : Nat} {x y : α} {new : List Value} (hj : xs[j]? = some x)
    (hO : ∀ f c σ', O σ f c x → O σ' f new y) (hn : new.length = n) {K : Vw → Prop}
    (hK : ∀ σ', KeepsBut F σ σ' → OSl w0 n O σ' F v (xs.set j y) → K σ') : pIndexAddr n v (.int .i64 j) fun p => pStore p new σ K := by
  obtain ⟨b, o, f, c, A, C, r, hix, hb, hr, hc, hA, hOx, hbF, hf, hput⟩ := h.focus ok hj
  refine hix _ ?_
  have hcl := ok.len _ _ _ _ hOx
  refine cell_store hr hc hA (by rw [hcl, hn]) ?_
  exact hK _ (KeepsBut.put hbF) (hput _ new y _ put_at rfl (hO _ _ _ hOx) fun i hi hne _ => by simp [Vw.put, hne])

def Vclone2 (w0 : World) (e1 n1 b1 e2 n2 b2 : Nat) (u v : Value) (σ : Vw) (K : Value → Value → Vw → Prop) : Prop :=
  (pNew w0 e1 [] σ (fun x0 s1 => (pAppendS w0 e1 n1 b1 (.slice (some (Addr.mk x0 0 none)) 0 0) u s1 (fun v2 s3 => pNew w0 e2 [] s3 (fun x4 s5 => pAppendS w0 e2 n2 b2 (.slice (some (Addr.mk x4 0 none)) 0 0) v s5 (fun v6 s7 => K v2 v6 s7)))) ∧
    (pNew w0 e2 [] s1 (fun x8 s9 => pAppendS w0 e1 n1 b1 (.slice (some (Addr.mk x0 0 none)) 0 0) u s9 (fun v10 s11 => pAppendS w0 e2 n2 b2 (.slice (some (Addr.mk x8 0 none)) 0 0) v s11 (fun v12 s13 => K v10 v12 s13)))))) ∧
  (pNew w0 e2 [] σ (fun x14 s15 => pNew w0 e1 [] s15 (fun x16 s17 => pAppendS w0 e1 n1 b1 (.slice (some (Addr.mk x16 0 none)) 0 0) u s17 (fun v18 s19 => pAppendS w0 e2 n2 b2 (.slice (some (Addr.mk x14 0 none)) 0 0) v s19 (fun v20 s21 => K v18 v20 s21)))))

theorem fresh_in {F F' : List Nat} {σ s : Vw} (k : Keeps σ s) (hF : ∀ i, i ∈ F → σ i = none) (h : ∀ i, i ∈ F' → i ∈ F ∨ s i = none) : ∀ i, i ∈ F' → σ i = none := fun i hi => by
  rcases h i hi with e | e
  · exact hF i e
  · cases hs : σ i with
    | none => rfl
    | some r => rw [k i r hs] at e; cases e
theorem KeepsBut.dom {F : List Nat} {σ σ' : Vw} (k : KeepsBut F σ σ') {i : Nat} (h : σ i ≠ none) (hF : i ∉ F) : σ' i ≠ none := by
  cases hs : σ i with
  | none => exact absurd hs h
  | some r => rw [k i r hs hF]; simp

theorem clone2 {e1 n1 b1 e2 n2 b2 : Nat} {R1 : (Addr → Option Value) → List Value → α → Prop} {O1 : Vw → List Nat → List Value → α → Prop} {R2 : (Addr → Option Value) → List Value → γ → Prop} {O2 : Vw → List Nat → List Value → γ → Prop}
    (ok1 : OOk w0 n1 R1 O1) (ok2 : OOk w0 n2 R2 O2) (hO1 : ∀ rd s es y, R1 rd es y → O1 s [] es y) (hO2 : ∀ rd s es y, R2 rd es y → O2 s [] es y) {u v : Value} {xs : List α} {ys : List γ}
    (hu : RSl n1 R1 (Av.get w0 σ) u xs) (hv : RSl n2 R2 (Av.get w0 σ) v ys) (hx : xs.length ≤ 1000000000000) (hy : ys.length ≤ 1000000000000) (hb1 : b1 ≤ 140) (hb2 : b2 ≤ 140) {K : Value → Value → Vw → Prop}
    (hK : ∀ u' F v' G σ', Keeps σ σ' → OAcc w0 e1 n1 O1 σ' F u' xs → OAcc w0 e2 n2 O2 σ' G v' ys → (∀ i, i ∈ F → σ i = none) → (∀ i, i ∈ G → σ i = none) → (∀ i, i ∈ F → i ∉ G) → K u' v' σ') : Vclone2 w0 e1 n1 b1 e2 n2 b2 u v σ K := by
  have nof : ∀ {σ s : Vw} {i : Nat}, Keeps σ s → s i = none → σ i = none := fun {σ s i} k hi => by
    cases hs : σ i with
    | none => rfl
    | some r => rw [k i r hs] at hi; cases hi
  refine ⟨fun x0 h1 h2 => ⟨?_, fun x8 h3 h4 => ?_⟩, fun x14 h1 h2 x16 h3 h4 => ?_⟩
  · have k0 : Keeps σ (σ.put x0 ⟨e1, [], 0, (0, 0)⟩) := Keeps.put h2
    refine OAcc.allX (F := [x0]) ok1 (OAcc.new h1) hu k0.le (hO1 _ _) (by simpa using hx) hb1 fun u' F s ex k1 o1 f1 x4 h3 h4 => ?_
    have hF0 : ∀ i, i ∈ [x0] → σ i = none := fun i hi => by rw [List.mem_singleton.1 hi]; exact h2
    have hF := fresh_in k0 hF0 f1
    have k1' := k1.old k0 hF0
    have k2 : Keeps s (s.put x4 ⟨e2, [], 0, (0, 0)⟩) := Keeps.put h4
    have o1' := o1.frame ok1 (k2.but_at fun b hb => (o1.dom ok1 b hb).2)
    refine OAcc.allX (F := [x4]) ok2 (OAcc.new h3) hv (k1'.trans k2).le (hO2 _ _) (by simpa using hy) hb2 fun v' G s' ex k3 o2 f2 => ?_
    have hG0 : ∀ i, i ∈ [x4] → s i = none := fun i hi => by rw [List.mem_singleton.1 hi]; exact h4
    have hG := fresh_in k2 hG0 f2
    have k3' := k3.old k2 hG0
    have o1'' := o1.frame ok1 (k3'.but_at fun b hb => (o1.dom ok1 b hb).2)
    refine hK u' F v' G s' (k1'.trans k3') (by simpa using o1'') (by simpa using o2) hF (fun i hi => nof k1' (hG i hi)) fun i hi hi' => (o1.dom ok1 i hi).2 (hG i hi')
  · have k0 : Keeps σ (σ.put x0 ⟨e1, [], 0, (0, 0)⟩) := Keeps.put h2
    have k1 : Keeps (σ.put x0 ⟨e1, [], 0, (0, 0)⟩) ((σ.put x0 ⟨e1, [], 0, (0, 0)⟩).put x8 ⟨e2, [], 0, (0, 0)⟩) := Keeps.put h4
    have a1 : OAcc w0 e1 n1 O1 (σ.put x0 ⟨e1, [], 0, (0, 0)⟩) [x0] (.slice (some ⟨x0, 0, none⟩) 0 0) [] := OAcc.new h1
    have a1' := a1.frame ok1 (k1.but_at fun b hb => (a1.dom ok1 b hb).2)
    have a2 : OAcc w0 e2 n2 O2 ((σ.put x0 ⟨e1, [], 0, (0, 0)⟩).put x8 ⟨e2, [], 0, (0, 0)⟩) [x8] (.slice (some ⟨x8, 0, none⟩) 0 0) [] := OAcc.new h3
    have hF0 : ∀ i, i ∈ [x0] → σ i = none := fun i hi => by rw [List.mem_singleton.1 hi]; exact h2
    have hG0 : ∀ i, i ∈ [x8] → σ i = none := fun i hi => by rw [List.mem_singleton.1 hi]; exact nof k0 h4
    have hne : x8 ≠ x0 := fun e => by rw [e, put_at] at h4; cases h4
    have k01 := k0.trans k1
    refine OAcc.allX (F := [x0]) ok1 a1' hu k01.le (hO1 _ _) (by simpa using hx) hb1 fun u' F s ex k2 o1 f1 => ?_
    have hF := fresh_in k01 hF0 f1
    have k2' := k2.old k01 hF0
    have a2' := a2.frame ok2 (k2.at (fun b hb => (a2.dom ok2 b hb).2) fun b hb hb' => hne ((List.mem_singleton.1 hb).symm.trans (List.mem_singleton.1 hb')))
    have hFG : x8 ∉ F := fun hi => by
      rcases f1 _ hi with e | e
      · exact hne (List.mem_singleton.1 e)
      · rw [put_at] at e; cases e
    refine OAcc.allX (F := [x8]) ok2 a2' hv k2'.le (hO2 _ _) (by simpa using hy) hb2 fun v' G s' ex k3 o2 f2 => ?_
    have o1' := o1.frame ok1 (k3.at (fun b hb => (o1.dom ok1 b hb).2) fun b hb hb' => hFG ((List.mem_singleton.1 hb') ▸ hb))
    refine hK u' F v' G s' (k3.old k2' hG0) (by simpa using o1') (by simpa using o2) hF (fresh_in k2' hG0 f2) fun i hi hi' => ?_
    rcases f2 i hi' with e | e
    · exact hFG ((List.mem_singleton.1 e) ▸ hi)
    · exact (o1.dom ok1 i hi).2 e
  · have k0 : Keeps σ (σ.put x14 ⟨e2, [], 0, (0, 0)⟩) := Keeps.put h2
    have k1 : Keeps (σ.put x14 ⟨e2, [], 0, (0, 0)⟩) ((σ.put x14 ⟨e2, [], 0, (0, 0)⟩).put x16 ⟨e1, [], 0, (0, 0)⟩) := Keeps.put h4
    have a2 : OAcc w0 e2 n2 O2 (σ.put x14 ⟨e2, [], 0, (0, 0)⟩) [x14] (.slice (some ⟨x14, 0, none⟩) 0 0) [] := OAcc.new h1
    have a2' := a2.frame ok2 (k1.but_at fun b hb => (a2.dom ok2 b hb).2)
    have a1 : OAcc w0 e1 n1 O1 ((σ.put x14 ⟨e2, [], 0, (0, 0)⟩).put x16 ⟨e1, [], 0, (0, 0)⟩) [x16] (.slice (some ⟨x16, 0, none⟩) 0 0) [] := OAcc.new h3
    have hG0 : ∀ i, i ∈ [x14] → σ i = none := fun i hi => by rw [List.mem_singleton.1 hi]; exact h2
    have hF0 : ∀ i, i ∈ [x16] → σ i = none := fun i hi => by rw [List.mem_singleton.1 hi]; exact nof k0 h4
    have hne : x16 ≠ x14 := fun e => by rw [e, put_at] at h4; cases h4
    have k01 := k0.trans k1
    refine OAcc.allX (F := [x16]) ok1 a1 hu k01.le (hO1 _ _) (by simpa using hx) hb1 fun u' F s ex k2 o1 f1 => ?_
    have hF := fresh_in k01 hF0 f1
    have k2' := k2.old k01 hF0
    have a2'' := a2'.frame ok2 (k2.at (fun b hb => (a2'.dom ok2 b hb).2) fun b hb hb' => hne ((List.mem_singleton.1 hb').symm.trans (List.mem_singleton.1 hb)))
    have hFG : x14 ∉ F := fun hi => by
      rcases f1 _ hi with e | e
      · exact hne (List.mem_singleton.1 e).symm
      · exact absurd e (a2'.dom ok2 x14 (List.mem_singleton.2 rfl)).2
    refine OAcc.allX (F := [x14]) ok2 a2'' hv k2'.le (hO2 _ _) (by simpa using hy) hb2 fun v' G s' ex k3 o2 f2 => ?_
    have o1' := o1.frame ok1 (k3.at (fun b hb => (o1.dom ok1 b hb).2) fun b hb hb' => hFG ((List.mem_singleton.1 hb') ▸ hb))
    refine hK u' F v' G s' (k3.old k2' hG0) (by simpa using o1') (by simpa using o2) hF (fresh_in k2' hG0 f2) fun i hi hi' => ?_
    rcases f2 i hi' with e | e
    · exact hFG ((List.mem_singleton.1 e) ▸ hi)
    · exact (o1.dom ok1 i hi).2 e

/-! ### An element is taken out, in place -/
def VDel (P : Program) (w0 : World) (T ety n bytes : Nat) (z : List Value) (a0 a1 a2 : Value) (σ : Vw) (R : Value → Vw → Prop) : Prop :=
  pLen a0 (fun v0 => pSlice3 n a0 (some a1) (some a2) (some v0) (fun v1 => pBin P T .eql a1 a2 (fun v2 => pIf v2 (R a0 σ) (pLen a0 (fun v3 => pSlice n a0 none (some a1) (fun v4 => pSlice n a0 (some a2) none (fun v5 => pAppendS w0 ety n bytes v4 v5 σ (fun v6 s7 => pLen v6 (fun v8 => pSlice n v6 (some v8) (some v3) (fun v9 => pClear n z v9 s7 (fun s10 => R v6 s10)))))))))))

theorem del_row {T ety n bytes b off cap j : Nat} {z : List Value} {r : Row} {pre post : List Value} {css : List (List Value)} (hz : z.length = n) (hz1 : ∀ c, c ∈ z → c.oneCell' = true) (hb : w0.heap.size ≤ b) (hr : σ b = some r) (hc : r.cells = pre ++ (css.flatten ++ post)) (hpre : pre.length = off)
    (hn : ∀ c, c ∈ css → c.length = n) (h1 : ∀ c, c ∈ css → ∀ u, u ∈ c → u.oneCell' = true) (hn0 : 0 < n) (hcap : css.length ≤ cap ∧ cap ≤ 9223372036854775807) (hj : j < css.length) {R : Value → Vw → Prop}
    (hR : R (.slice (some ⟨b, off, none⟩) (css.length - 1) cap) (σ.put b { r with cells := pre ++ ((css.take j ++ css.drop (j + 1)).flatten ++ (z ++ post)) })) :
    VDel P w0 T ety n bytes z (.slice (some ⟨b, off, none⟩) css.length cap) (.int .i64 (j : Nat)) (.int .i64 ((j : Int) + 1)) σ R := by
  obtain ⟨m, hm⟩ : ∃ m, css.length = j + 1 + m := ⟨css.length - (j + 1), by omega⟩
  have hcj := List.getElem?_eq_getElem hj
  have htl : ∀ c, c ∈ css.take j → c.length = n := fun c hc => hn c (List.mem_of_mem_take hc)
  have hdl : ∀ c, c ∈ css.drop (j + 1) → c.length = n := fun c hc => hn c (List.mem_of_mem_drop hc)
  have hfl := split_at hcj
  have hcl := hn _ (List.getElem_mem hj)
  have htlen : (css.take j).flatten.length = j * n := by rw [flat_len _ htl, List.length_take, Nat.min_eq_left (by omega)]
  have hdlen : (css.drop (j + 1)).flatten.length = m * n := by rw [flat_len _ hdl, List.length_drop]; congr 1; omega
  unfold VDel
  rw [pLen_s]
  refine ⟨some ⟨b, off, none⟩, css.length, cap, (j : Int), (j : Int) + 1, (css.length : Int), rfl, rfl, rfl, rfl, rfl, rfl, by omega, by omega, by omega, by omega, ?_⟩
  rw [pBin_eq, pIf_d]
  refine ⟨fun h => by omega, fun _ => ?_⟩
  rw [pLen_s]
  refine ⟨some ⟨b, off, none⟩, css.length, cap, 0, (j : Int), rfl, rfl, rfl, by omega, by omega, by omega, ?_⟩
  refine ⟨some ⟨b, off, none⟩, css.length, cap, (j : Int) + 1, (css.length : Int), rfl, rfl, rfl, by omega, by omega, by omega, ?_⟩
  have e0 : (if cap = (0 : Int).toNat then some (Addr.mk b off none) else (some (Addr.mk b off none)).map (·.add ((0 : Int).toNat * n))) = some (Addr.mk b off none) := by
    split
    · rfl
    · simp [Addr.add]
  rw [e0]
  simp only [Int.toNat_natCast, Int.toNat_zero, Nat.sub_zero]
  have ej : ((j : Int) + 1).toNat = j + 1 := by omega
  rw [ej]
  have hcells : r.cells = (pre ++ (css.take j).flatten) ++ ((css[j] ++ (css.drop (j + 1)).flatten) ++ post) := by rw [hc, hfl]; simp
  -- what is moved
  refine ⟨_, css.length - (j + 1), cap - (j + 1), (css.drop (j + 1)).flatten, rfl, by rw [hdlen]; congr 1; omega, fun u hu => ?_, fun i hi => ?_, .inl ⟨b, off, j, cap, r, rfl, hr, by omega, by rw [hdlen]; congr 1; omega, fun u hu => ?_, ?_, ?_⟩⟩
  · obtain ⟨c, hc1, hc2⟩ := List.mem_flatten.1 hu
    exact h1 c (List.mem_of_mem_drop hc1) u hc2
  · have hi' : i < m * n := by rw [← hdlen]; exact hi
    have hcapne : ¬ cap = j + 1 := fun e => by
      have : m = 0 := by omega
      subst this; omega
    refine ⟨_, by rw [if_neg hcapne]; rfl, ?_⟩
    rw [add_add, addr_add, get_row hb hr, hc, ← List.getElem?_eq_getElem hi]
    rw [List.getElem?_append_right (by omega), hpre]
    have e2 : off + ((j + 1) * n + i) - off = (j + 1) * n + i := by omega
    have hlt : (j + 1) * n + i < css.flatten.length := by
      rw [flat_len _ hn, hm, Nat.add_mul (j + 1)]; omega
    rw [e2, List.getElem?_append_left hlt]
    have h3 : css.flatten = (css.take (j + 1)).flatten ++ (css.drop (j + 1)).flatten := by rw [← List.flatten_append, List.take_append_drop]
    have h4 : (css.take (j + 1)).flatten.length = (j + 1) * n := by
      rw [flat_len _ fun c hc => hn c (List.mem_of_mem_take hc), List.length_take, Nat.min_eq_left (by omega)]
    rw [h3, List.getElem?_append_right (by omega), h4]
    congr 1; omega
  · obtain ⟨c, hc1, hc2⟩ := List.mem_flatten.1 hu
    exact h1 c (List.mem_of_mem_drop hc1) u hc2
  · rw [hcells]; simp only [List.length_append]; omega
  · -- the cells behind it
    generalize hDe : (css.drop (j + 1)).flatten = D at *
    generalize hTe : (css.take j).flatten = T' at *
    generalize hce : css[j] = cj at *
    have hB : (cj ++ D).length = n + m * n := by rw [List.length_append, hcl, hdlen]
    have hsplit : cj ++ D = (cj ++ D).take (m * n) ++ (cj ++ D).drop (m * n) := (List.take_append_drop _ _).symm
    have hold : ((cj ++ D).take (m * n)).length = D.length := by rw [List.length_take, hB, hdlen]; omega
    have hlast : ((cj ++ D).drop (m * n)).length = n := by rw [List.length_drop, hB]; omega
    have hset : setAt r.cells (off + j * n) D = (pre ++ T') ++ (D ++ ((cj ++ D).drop (m * n) ++ post)) := by
      have hA : (pre ++ T').length = off + j * n := by rw [List.length_append, hpre, htlen]
      have hcells2 : r.cells = (pre ++ T') ++ ((cj ++ D).take (m * n) ++ ((cj ++ D).drop (m * n) ++ post)) := by
        rw [hcells, ← List.append_assoc ((cj ++ D).take (m * n)), List.take_append_drop]
      rw [hcells2, ← hA, setAt_mid _ _ _ _ hold]
    rw [hset]
    have e3 : j + (css.length - (j + 1)) = css.length - 1 := by omega
    rw [e3, pLen_s]
    refine ⟨some ⟨b, off, none⟩, css.length - 1, cap, ((css.length - 1 : Nat) : Int), (css.length : Int), rfl, rfl, rfl, by omega, by omega, by omega, ?_⟩
    simp only [Int.toNat_natCast]
    have e4 : css.length - (css.length - 1) = 1 := by omega
    have hcapne : ¬ cap = css.length - 1 := by omega
    rw [e4, if_neg hcapne]
    refine ⟨hz, hz1, _, 1, cap - (css.length - 1), rfl, .inr ⟨b, off + (css.length - 1) * n, _, by simp [addr_add], by omega, put_at, ?_, ?_⟩⟩
    · simp only [List.length_append, hpre, htlen, hdlen, hlast]
      have : (css.length - 1) * n = j * n + m * n := by rw [← Nat.add_mul]; congr 1; omega
      omega
    · have e5 : (List.replicate 1 z).flatten = z := by simp
      have hA2 : (pre ++ T' ++ D).length = off + (css.length - 1) * n := by
        simp only [List.length_append, hpre, htlen, hdlen]
        have : (css.length - 1) * n = j * n + m * n := by rw [← Nat.add_mul]; congr 1; omega
        omega
      simp only
      rw [e5]
      have e6 : (pre ++ T') ++ (D ++ ((cj ++ D).drop (m * n) ++ post)) = (pre ++ T' ++ D) ++ ((cj ++ D).drop (m * n) ++ post) := by simp
      rw [e6, ← hA2, setAt_mid _ _ _ _ (by rw [hlast, hz]), put_put]
      have e7 : (pre ++ T' ++ D) ++ (z ++ post) = pre ++ ((css.take j ++ css.drop (j + 1)).flatten ++ (z ++ post)) := by
        rw [List.flatten_append, hTe, hDe]; simp
      rw [e7]
      exact hR

/-- An element of a list of our own is taken out: what is read then. -/
theorem OSl.del {T ety n bytes j : Nat} {z : List Value} {Rel : (Addr → Option Value) → List Value → α → Prop} {O : Vw → List Nat → List Value → α → Prop} (ok : OOk w0 n Rel O) (hO : ∀ s s' f es y, O s f es y → f = [] ∧ O s' f es y) (hz : z.length = n) (hz1 : ∀ c, c ∈ z → c.oneCell' = true) (hn0 : 0 < n) {F : List Nat} {v : Value} {xs : List α}
    (h : OSl w0 n O σ F v xs) (hj : j < xs.length) {R : Value → Vw → Prop} (hR : ∀ v' σ', KeepsBut F σ σ' → RSl n Rel (Av.get w0 σ') v' (xs.take j ++ xs.drop (j + 1)) → R v' σ') : VDel P w0 T ety n bytes z v (.int .i64 (j : Nat)) (.int .i64 ((j : Int) + 1)) σ R := by
  obtain ⟨g1, g2, ⟨rfl, rfl, _⟩ | ⟨b, off, cap, r, pre, post, css, Fs, rfl, gc, g3, g4, g5, g6, g7, g8, g9, g10⟩⟩ := h
  · simp at hj
  · have each : ∀ (i : Nat) (c : List Value), css[i]? = some c → ∃ x f, xs[i]? = some x ∧ O σ f c x := fun i c hi => by
      have hlt : i < css.length := (List.getElem?_eq_some_iff.1 hi).1
      exact ⟨_, _, List.getElem?_eq_getElem (by omega), g10 i c _ _ hi (List.getElem?_eq_getElem (by omega)) (List.getElem?_eq_getElem (by omega))⟩
    have hn : ∀ c, c ∈ css → c.length = n := fun c hc => by obtain ⟨i, hi⟩ := List.getElem?_of_mem hc; obtain ⟨x, f, _, ho⟩ := each i c hi; exact ok.len _ _ _ _ ho
    have h1 : ∀ c, c ∈ css → ∀ u, u ∈ c → u.oneCell' = true := fun c hc => by obtain ⟨i, hi⟩ := List.getElem?_of_mem hc; obtain ⟨x, f, _, ho⟩ := each i c hi; exact ok.one _ _ _ _ ho
    rw [← g7]
    refine del_row hz hz1 g3 g4 g5 g6 hn h1 hn0 (by rw [g7]; exact gc) (by omega) (hR _ _ (KeepsBut.put (by rw [g9]; exact List.mem_cons_self)) ?_)
    have hlen : (xs.take j ++ xs.drop (j + 1)).length = css.length - 1 := by simp only [List.length_append, List.length_take, List.length_drop]; omega
    refine ⟨_, cap, by rw [hlen], by rw [hlen]; omega, fun i x hi => ?_⟩
    -- the cells of the element
    have hget : ∃ c f, (css.take j ++ css.drop (j + 1))[i]? = some c ∧ O σ f c x := by
      by_cases hij : i < j
      · rw [List.getElem?_append_left (by rw [List.length_take]; omega), List.getElem?_take_of_lt hij] at hi
        refine ⟨css[i]'(by omega), _, ?_, g10 i _ x _ (List.getElem?_eq_getElem (by omega)) hi (List.getElem?_eq_getElem (by omega))⟩
        rw [List.getElem?_append_left (by rw [List.length_take]; omega), List.getElem?_take_of_lt hij]
        exact List.getElem?_eq_getElem (by omega)
      · rw [List.getElem?_append_right (by rw [List.length_take]; omega), List.getElem?_drop, List.length_take, Nat.min_eq_left (by omega)] at hi
        have hlt : j + 1 + (i - j) < xs.length := (List.getElem?_eq_some_iff.1 hi).1
        refine ⟨css[j + 1 + (i - j)]'(by omega), _, ?_, g10 _ _ x _ (List.getElem?_eq_getElem (by omega)) hi (List.getElem?_eq_getElem (by omega))⟩
        rw [List.getElem?_append_right (by rw [List.length_take]; omega), List.getElem?_drop, List.length_take, Nat.min_eq_left (by omega)]
        exact List.getElem?_eq_getElem (by omega)
    obtain ⟨c, f, hci, ho⟩ := hget
    have hn' : ∀ c, c ∈ css.take j ++ css.drop (j + 1) → c.length = n := fun c hc => by
      rcases List.mem_append.1 hc with h | h
      · exact hn c (List.mem_of_mem_take h)
      · exact hn c (List.mem_of_mem_drop h)
    obtain ⟨rfl, ho'⟩ := hO σ (σ.put b { r with cells := pre ++ ((css.take j ++ css.drop (j + 1)).flatten ++ (z ++ post)) }) f c x ho
    refine ⟨_, c, rfl, ok.len _ _ _ _ ho, fun k hk => ?_, ok.rel _ _ _ _ ho'⟩
    rw [addr_add, get_row g3 put_at]
    simp only
    rw [List.getElem?_append_right (by omega), show off + (i * n + k) - pre.length = i * n + k by omega, List.getElem?_append_left, flat_get _ hn' i c hci k hk]
    have hil : i < (css.take j ++ css.drop (j + 1)).length := (List.getElem?_eq_some_iff.1 hci).1
    rw [flat_len _ hn']
    calc i * n + k < i * n + n := by omega
      _ = (i + 1) * n := by rw [Nat.add_mul, Nat.one_mul]
      _ ≤ (css.take j ++ css.drop (j + 1)).length * n := Nat.mul_le_mul_right n hil
end
end Go.Av

/- strings.Split, Cut, TrimPrefix at one byte, by the shelf; cuts by hand. -/
set_option linter.unusedVariables false
set_option linter.unusedSimpArgs false
namespace Go.Proofs.YtkblkdnnncklgaaDoor
open Go Go.Av Go.RowKit

/-! ### The library's cuts are these cuts -/
theorem ib_none {c : UInt8} : ∀ {l : List UInt8}, c ∉ l → Lib.indexByte l c = -1
  | [], _ => rfl
  | b :: r, h => by
    have h1 : ¬ b = c := fun e => h (e ▸ List.mem_cons_self)
    have h2 : c ∉ r := fun e => h (List.mem_cons_of_mem _ e)
    rw [Lib.indexByte, if_neg (by simpa using h1), ib_none h2]; rfl
theorem ib_at {c : UInt8} : ∀ {a r : List UInt8}, c ∉ a → Lib.indexByte (a ++ c :: r) c = (a.length : Int)
  | [], r, _ => by simp [Lib.indexByte]
  | b :: a, r, h => by
    have h1 : ¬ b = c := fun e => h (e ▸ List.mem_cons_self)
    have h2 : c ∉ a := fun e => h (List.mem_cons_of_mem _ e)
    rw [List.cons_append, Lib.indexByte, if_neg (by simpa using h1), ib_at h2, if_neg (by simp)]
    simp
theorem split_first {c : UInt8} : ∀ {l : List UInt8}, c ∈ l → ∃ a r, l = a ++ c :: r ∧ c ∉ a
  | b :: r, h => by
    by_cases e : b = c
    · exact ⟨[], r, by rw [e]; rfl, by simp⟩
    · have : c ∈ r := by
        rcases List.mem_cons.1 h with h | h
        · exact absurd h.symm e
        · exact h
      obtain ⟨a, t, h1, h2⟩ := split_first this
      exact ⟨b :: a, t, by rw [h1]; rfl, fun h => by rcases List.mem_cons.1 h with h | h; exact e h.symm; exact h2 h⟩
theorem count_at {c : UInt8} {a r : List UInt8} (h : c ∉ a) : (a ++ c :: r).count c = r.count c + 1 := by
  rw [List.count_append, List.count_eq_zero.2 h, List.count_cons_self]; omega
theorem countFrom_one {c : UInt8} : ∀ (fuel : Nat) (l : List UInt8), l.length < fuel → Lib.countFrom [c] fuel l = l.count c
  | 0, l, h => by omega
  | fuel + 1, l, h => by
    unfold Lib.countFrom
    by_cases hc : c ∈ l
    · obtain ⟨a, r, rfl, ha⟩ := split_first hc
      rw [Lib.index_one, ib_at ha, if_neg (by simp)]
      have e : (a ++ c :: r).drop ((a.length : Int).toNat + [c].length) = r := by simp [List.drop_append]
      rw [e, count_at ha, countFrom_one fuel r (by simp at h; omega)]; omega
    · rw [Lib.index_one, ib_none hc, if_pos (by simp), List.count_eq_zero.2 hc]
theorem splitK_one {c : UInt8} : ∀ (k : Nat) (l : List UInt8), l.count c ≤ k → Lib.splitK [c] 0 k l = cutL c l
  | 0, l, h => by
    have : c ∉ l := List.count_eq_zero.1 (by omega)
    rw [cutL_none this]; rfl
  | k + 1, l, h => by
    unfold Lib.splitK
    by_cases hc : c ∈ l
    · obtain ⟨a, r, rfl, ha⟩ := split_first hc
      rw [Lib.index_one, ib_at ha, if_neg (by simp), cutL_at ha]
      have e : (a ++ c :: r).drop ((a.length : Int).toNat + [c].length) = r := by simp [List.drop_append]
      have e2 : (a ++ c :: r).take ((a.length : Int).toNat + 0) = a := by simp
      rw [count_at ha] at h
      rw [e, e2, splitK_one k r (by omega)]
    · rw [Lib.index_one, ib_none hc, if_pos (by simp), cutL_none hc]
theorem cutL_length {c : UInt8} (l : List UInt8) : (cutL c l).length = l.count c + 1 := by
  suffices h : ∀ (n : Nat) (l : List UInt8), l.length ≤ n → (cutL c l).length = l.count c + 1 from h l.length l (Nat.le_refl _)
  intro n
  induction n with
  | zero => intro l h; have : l = [] := List.eq_nil_of_length_eq_zero (by omega); subst this; rfl
  | succ n ih =>
    intro l h
    by_cases hc : c ∈ l
    · obtain ⟨a, r, rfl, ha⟩ := split_first hc
      rw [cutL_at ha, count_at ha, List.length_cons, ih r (by simp at h; omega)]
    · rw [cutL_none hc, List.count_eq_zero.2 hc]; rfl
theorem splitB_cutS (s : ByteArray) (c : UInt8) : Lib.splitB ⟨#[c]⟩ 0 (Lib.countB s ⟨#[c]⟩) s = cutS c s := by
  have h := Lib.splitB_data ⟨#[c]⟩ 0 (Lib.countB s ⟨#[c]⟩) s
  have e : Lib.countB s ⟨#[c]⟩ = (bl s).count c := countFrom_one (c := c) _ _ (by show s.data.toList.length < s.data.toList.length + 1; omega)
  have h2 : (Lib.splitB ⟨#[c]⟩ 0 (Lib.countB s ⟨#[c]⟩) s).map bl = cutL c (bl s) := by
    rw [← splitK_one (c := c) (Lib.countB s ⟨#[c]⟩) (bl s) (by omega)]; exact h
  rw [cutS, ← h2, List.map_map]
  have : (ofL ∘ bl) = id := by funext x; exact ofL_bl x
  rw [this, List.map_id]
theorem countB_len (s : ByteArray) (c : UInt8) : Lib.countB s ⟨#[c]⟩ + 1 = (cutS c s).length := by
  have e : Lib.countB s ⟨#[c]⟩ = (bl s).count c := countFrom_one (c := c) _ _ (by show s.data.toList.length < s.data.toList.length + 1; omega)
  rw [cutS, List.length_map, cutL_length, e]
theorem cut_at {c : UInt8} {a r : List UInt8} (h : c ∉ a) : Lib.cut (a ++ c :: r) [c] = (a, r, true) := by
  unfold Lib.cut
  rw [Lib.index_one, ib_at h, if_pos (by omega)]
  simp [List.drop_append]
theorem cut_len (c : UInt8) (l : List UInt8) : (Lib.cut l [c]).1.length ≤ l.length ∧ (Lib.cut l [c]).2.1.length ≤ l.length := by
  by_cases hc : c ∈ l
  · obtain ⟨a, r, rfl, ha⟩ := split_first hc
    rw [cut_at ha]; simp; omega
  · unfold Lib.cut
    rw [Lib.index_one, ib_none hc, if_neg (by omega)]; simp
def trimB (t : ByteArray) : ByteArray := if 1 ≤ t.size ∧ t.extract 0 1 = ⟨#[47]⟩ then t.extract 1 t.size else t
theorem trimB_size (t : ByteArray) : (trimB t).size ≤ t.size := by
  unfold trimB; split
  · rw [ByteArray.size_extract]; omega
  · omega

section
variable {w0 : World} {σ : Vw}

/-- The variable that the library reads holds a number. -/
def MaxL (w0 : World) : Prop := ∃ m, ∀ w, Below w0.heap.size w0 w → w.cell? ⟨0, 0, none⟩ = some (.int .i64 m)

theorem strings_Split (mx : MaxL w0) {s : ByteArray} {c : UInt8} (hs : s.size ≤ 1000000000) {R : Value → Vw → Prop} (hR : ∀ v F σ', Keeps σ σ' → OStrs w0 σ' F v (cutS c s) → (∀ b, b ∈ F → σ b = none) → R v σ') : AC Tryd.prog w0 n_strings_Split [.string s, .string ⟨#[c]⟩] σ R := by
  refine ⟨is_strings_Split, fun w hw => ?_⟩
  obtain ⟨m, hm⟩ := mx
  refine (Tryd.strings_Split s ⟨#[c]⟩ m w (by omega) (hm w hw.bel) (Nat.le_refl 1)).mono ?_
  rintro e w' ⟨rfl, rfl⟩
  rw [splitB_cutS, countB_len]
  have hn : σ w.heap.size = none := by
    cases h : σ w.heap.size with
    | none => rfl
    | some r => exact absurd (hw.lt h) (Nat.lt_irrefl _)
  have hcl := cutS_len c s
  refine ⟨_, σ.put w.heap.size ⟨t_string, (cutS c s).map .string, (cutS c s).length, (0, 0)⟩, rfl, hR _ [w.heap.size] _ (Keeps.put hn) (own_strs hw.bel.size put_at rfl ⟨Nat.le_refl _, by omega⟩ fun x hx => ?_) (fun i hi => by rw [List.mem_singleton.1 hi]; exact hn), ?_⟩
  · have := cutS_mem hx; omega
  · exact Aft.row hw _ ⟨t_string, (cutS c s).map .string, (cutS c s).length, (0, 0)⟩ (by simp) (by simp) rfl

theorem strings_Cut (mx : MaxL w0) {s : ByteArray} {c : UInt8} (hs : s.size ≤ 1000000000) {R : Value → Vw → Prop}
    (hR : R (.tuple ⟨[.string (ofL (Lib.cut (bl s) [c]).1), .string (ofL (Lib.cut (bl s) [c]).2.1), .bool (Lib.cut (bl s) [c]).2.2]⟩) σ) : AC Tryd.prog w0 n_strings_Cut [.string s, .string ⟨#[c]⟩] σ R := by
  refine AC.of_calls is_strings_Cut fun w hw => ?_
  obtain ⟨m, hm⟩ := mx
  refine (Tryd.strings_Cut s ⟨#[c]⟩ m w (by omega) (hm w hw.bel)).mono ?_
  rintro e w' ⟨rfl, n, rfl⟩
  exact ⟨_, rfl, hR, below_drewN (Below.refl _ _) n⟩

theorem strings_TrimPrefix {t : ByteArray} (ht : t.size ≤ 1000000000) {R : Value → Vw → Prop} (hR : R (.string (trimB t)) σ) : AC Tryd.prog w0 n_strings_TrimPrefix [.string t, .string ⟨#[47]⟩] σ R := by
  refine ac_strings_TrimPrefix ?_
  unfold vc_strings_TrimPrefix
  refine ac_internal_stringslite_TrimPrefix ?_
  unfold vc_internal_stringslite_TrimPrefix
  refine ac_internal_stringslite_HasPrefix ?_
  unfold vc_internal_stringslite_HasPrefix
  have e1 : (⟨#[47]⟩ : ByteArray).size = 1 := rfl
  rw [pLenS_s, pLenS_s, pBin_ge, pIf_d, e1]
  refine ⟨fun h => ?_, fun h => ?_⟩
  · rw [pLenS_s, e1]
    refine pSliceStr_s (l := 0) (h := 1) rfl rfl (by omega) ?_
    rw [pBin_seq]
    show pIf (.bool (decide (t.extract 0 1 = ⟨#[47]⟩))) _ _
    rw [pIf_d]
    refine ⟨fun hp => ?_, fun hp => ?_⟩
    · rw [pLenS_s, e1]
      refine pSliceStr_s (l := 1) (h := t.size) rfl rfl (by omega) ?_
      rw [trimB, if_pos ⟨by omega, hp⟩] at hR
      exact hR
    · rw [trimB, if_neg (fun h => hp h.2)] at hR; exact hR
  · show pIf (.bool false) _ _
    rw [pIf_b]
    refine ⟨nofun, fun _ => ?_⟩
    rw [trimB, if_neg (fun h' => by omega)] at hR; exact hR

/-! ### A cut by hand -/
/-- The pieces that are whole ahead of a place, and where the next begins. -/
theorem spec_l1Cut {s : ByteArray} {c : UInt8} (hs : s.size ≤ 1000000000) {R : Value → Vw → Prop} (hR : ∀ v F σ', Keeps σ σ' → OStrs w0 σ' F v (cutS c s) → (∀ b, b ∈ F → σ b = none) → R v σ') : AC Tryd.prog w0 n_spec_l1Cut [.string s, .int .u8 (c.toNat : Int)] σ R := by
  refine ac_spec_l1Cut ?_
  unfold vc_spec_l1Cut
  intro b h1 h2
  have kb : Keeps σ (σ.put b ⟨t_string, [], 0, (0, 0)⟩) := Keeps.put h2
  have hb0 : ∀ i, i ∈ [b] → σ i = none := fun i hi => by rw [List.mem_singleton.1 hi]; exact h2
  refine loop_rule (m := s.size) (fun m l st => ∃ (i f : Nat) (v : Value) (F : List Nat) (out : List ByteArray), m + i = s.size ∧ f ≤ i ∧ Keeps σ st ∧ (∀ j, j ∈ F → σ j = none) ∧ OAcc w0 t_string 1 OStr st F v out ∧ out.length ≤ i ∧ c ∉ ((bl s).take i).drop f ∧ cutL c (bl s) = out.map bl ++ cutL c ((bl s).drop f) ∧ l = [.string s, .int .u8 (c.toNat : Int), v, .int .i64 (f : Nat), .int .i64 (i : Nat)]) ?_
    ⟨0, 0, _, [b], [], by omega, Nat.le_refl _, kb, hb0, OAcc.new h1, Nat.le_refl _, by simp, by simp, rfl⟩
  rintro m l st L ⟨i, f, v, F, out, hm, hfi, ks, hF, ho, hol, hnc, hcut, rfl⟩ hL
  simp only [vget, List.getD_cons_zero, List.getD_cons_succ]
  have hlen : (bl s).length = s.size := size_bl s
  rw [pLenS_s, pBin_lt, pIf_d]
  refine ⟨fun hi => ?_, fun hi => ?_⟩
  · have hi' : i < s.size := by omega
    have hget := bl_get s i hi'
    generalize hb : s[i]'hi' = x at hget
    refine pIndexStr_s hi' ?_
    rw [hb, pBin_eq, pIf_d]
    refine ⟨fun e => ?_, fun e => ?_⟩
    · have e : x = c := UInt8.toNat_inj.1 (by omega)
      subst e
      refine pSliceStr_s (l := (f : Nat)) (h := (i : Nat)) rfl rfl (by omega) ?_
      rw [Int.toNat_natCast, Int.toNat_natCast, pVal1 rfl]
      refine ho.one (ok_str w0) (f := []) (y := s.extract f i) ⟨rfl, rfl, by rw [ByteArray.size_extract]; omega⟩ (by simp) (by omega) (by omega) fun v2 F2 s2 k2 o2 f2 => ?_
      rw [pBin_add (by omega), pBin_add (by omega)]
      have hF2 : ∀ j, j ∈ F2 → σ j = none := fresh_in ks hF fun j hj => by
        rcases f2 j hj with h | h | h
        · exact .inl h
        · cases h
        · exact .inr h
      refine hL _ _ (m - 1) (by omega) ⟨i + 1, i + 1, v2, F2, out ++ [s.extract f i], by omega, Nat.le_refl _, k2.old ks hF, hF2, o2, by simp; omega, by simp, ?_, by simp⟩
      have hsplit : (bl s).drop f = ((bl s).take i).drop f ++ x :: (bl s).drop (i + 1) := by
        have h3 : bl s = (bl s).take i ++ x :: (bl s).drop (i + 1) := by
          have hl : i < (bl s).length := by omega
          have hx : (bl s)[i]'hl = x := (List.getElem?_eq_some_iff.1 hget).2
          rw [← hx, ← List.drop_eq_getElem_cons hl, List.take_append_drop]
        conv => lhs; rw [h3]
        rw [List.drop_append_of_le_length (by rw [List.length_take]; omega)]
      rw [hcut, hsplit, cutL_at hnc, List.map_append, List.append_assoc]
      congr 1
      simp only [List.map_cons, List.map_nil, List.singleton_append, List.cons.injEq, and_true]
      rw [bl_extract, List.drop_take]
    · rw [pBin_add (by omega)]
      refine hL _ _ (m - 1) (by omega) ⟨i + 1, f, v, F, out, by omega, by omega, ks, hF, ho, by omega, ?_, hcut, by simp⟩
      rw [List.take_add_one, hget, Option.toList_some, List.drop_append_of_le_length (by rw [List.length_take]; omega)]
      intro h
      rcases List.mem_append.1 h with h | h
      · exact hnc h
      · rw [List.mem_singleton] at h
        subst h; exact e rfl
  · have e : i = s.size := by omega
    subst e
    show pSliceStr (.string s) (some (.int .i64 (f : Nat))) none _
    refine pSliceStr_s (l := (f : Nat)) (h := s.size) rfl rfl (by omega) ?_
    rw [Int.toNat_natCast, Int.toNat_natCast, pVal1 rfl]
    refine ho.one (ok_str w0) (f := []) (y := s.extract f s.size) ⟨rfl, rfl, by rw [ByteArray.size_extract]; omega⟩ (by simp) (by omega) (by omega) fun v2 F2 s2 k2 o2 f2 => ?_
    have hF2 : ∀ j, j ∈ F2 → σ j = none := fresh_in ks hF fun j hj => by
      rcases f2 j hj with h | h | h
      · exact .inl h
      · cases h
      · exact .inr h
    have hfin : out ++ [s.extract f s.size] = cutS c s := by
      rw [List.take_of_length_le (by omega)] at hnc
      rw [cutL_none hnc] at hcut
      have e2 : bl (s.extract f s.size) = (bl s).drop f := by
        rw [bl_extract, List.take_of_length_le (by rw [List.length_drop]; omega)]
      rw [cutS, hcut, ← e2, List.map_append, List.map_map]
      have : (ofL ∘ bl) = id := by funext x; exact ofL_bl x
      rw [this, List.map_id, List.map_cons, List.map_nil, ofL_bl]
    rw [hfin] at o2
    exact hR v2 F2 s2 (k2.old ks hF) o2.osl hF2

/-- The list without its first text. -/
theorem strs_tail {F : List Nat} {v : Value} {xs : List ByteArray} (h : OStrs w0 σ F v xs) (hx : 1 ≤ xs.length) {K : Value → Prop} (hK : ∀ v' F', (∀ i, i ∈ F' → i ∈ F) → OStrs w0 σ F' v' (xs.drop 1) → K v') : pSlice 1 v (some (.int .i64 1)) none K := by
  obtain ⟨h1, h2, ⟨rfl, rfl, _⟩ | ⟨b, off, cap, r, pre, post, css, Fs, rfl, gc, g2, g3, g4, g5, g6, g7, g8, g9⟩⟩ := h
  · simp at hx
  refine ⟨_, xs.length, cap, 1, xs.length, rfl, rfl, rfl, by omega, by omega, by omega, ?_⟩
  by_cases hl : xs.length = 1
  · have e : xs.drop 1 = [] := List.eq_nil_of_length_eq_zero (by rw [List.length_drop]; omega)
    have : ∀ A : Option Addr, ∀ k : Nat, k ≤ 9223372036854775807 → (A = none ∧ k = 0) ∨ (∃ o, A = some ⟨b, o, none⟩ ∧ o ≤ pre.length + 1) → K (.slice A 0 k) := by
      intro A k hk hA
      rcases hA with ⟨rfl, rfl⟩ | ⟨o, rfl, ho⟩
      · exact hK _ [] (by simp) (by rw [e]; exact ⟨by simp, by simp, .inl ⟨rfl, rfl, rfl⟩⟩)
      · refine hK _ [b] (fun i hi => by rw [g8]; simp at hi; simp [hi]) ?_
        rw [e]
        have hcl : css.length = 1 := by omega
        obtain ⟨c0, rfl⟩ : ∃ c0, css = [c0] := by
          match css, hcl with
          | [c0], _ => exact ⟨c0, rfl⟩
        have hc1 : c0.length = 1 := by
          obtain ⟨x0, hx0⟩ : ∃ x0, xs[0]? = some x0 := ⟨_, List.getElem?_eq_getElem (by omega)⟩
          obtain ⟨f0, hf0⟩ : ∃ f0, Fs[0]? = some f0 := ⟨_, List.getElem?_eq_getElem (by omega)⟩
          obtain ⟨_, rfl, _⟩ := g9 0 c0 x0 f0 rfl hx0 hf0
          rfl
        refine ⟨by simp, by simp, .inr ⟨b, o, k, r, (r.cells).take o, (r.cells).drop o, [], [], rfl, ⟨by simp, hk⟩, g2, g3, by simp, ?_, rfl, rfl, rfl, fun j c x f e1 => by simp at e1⟩⟩
        rw [List.length_take, g4]
        simp only [List.flatten_cons, List.flatten_nil, List.append_nil, List.length_append, hc1]
        omega
    have hz : ((xs.length : Int).toNat - (1 : Int).toNat) = 0 := by omega
    rw [hz]
    split
    · exact this _ _ (by omega) (.inr ⟨off, rfl, by omega⟩)
    · refine this _ _ (by omega) (.inr ⟨off + 1, ?_, by omega⟩)
      show some (Addr.add ⟨b, off, none⟩ ((1 : Int).toNat * 1)) = _
      rw [addr_add]; rfl
  · have hcap : ¬ cap = (1 : Int).toNat := by have : (1 : Int).toNat = 1 := rfl; omega
    rw [if_neg hcap]
    cases xs with
    | nil => simp at hx
    | cons x0 xs =>
    cases css with
    | nil => simp at g6
    | cons c0 css =>
    cases Fs with
    | nil => simp at g7
    | cons f0 Fs =>
      simp only [List.length_cons] at g6 g7 hl gc h1
      obtain ⟨hf0, rfl, _⟩ := g9 0 c0 x0 f0 rfl rfl rfl
      subst hf0
      refine hK _ (b :: Fs.flatten) (fun i hi => by rw [g8]; simpa using hi) ?_
      have e : Option.map (fun x => x.add ((1 : Int).toNat * 1)) (some (Addr.mk b off none)) = some ⟨b, off + 1, none⟩ := by
        show some (Addr.add ⟨b, off, none⟩ ((1 : Int).toNat * 1)) = _
        rw [addr_add]; rfl
      rw [e]
      have hlen : (((x0 :: xs).length : Int).toNat - (1 : Int).toNat) = xs.length := by simp
      rw [hlen, List.drop_one, List.tail_cons]
      refine ⟨by omega, by rw [g8] at h2; simpa using h2, .inr ⟨b, off + 1, cap - 1, r, pre ++ [.string x0], post, css, Fs, rfl, by omega, g2, g3, by rw [g4]; simp, by simp [g5], by omega, by omega, rfl, fun j c x f e1 e2 e3 => g9 (j + 1) c x f (by simpa using e1) (by simpa using e2) (by simpa using e3)⟩⟩
end
end Go.Proofs.YtkblkdnnncklgaaDoor

/- Trails read from texts: two ways to read, and that they agree. -/
set_option linter.unusedVariables false
set_option linter.unusedSimpArgs false
namespace Go.Proofs.YtkblkdnnncklgaaDoor
open Go Go.Av Go.RowKit

def subT : ByteArray := ⟨#[115, 117, 98]⟩
def atTx : ByteArray := ⟨#[97, 116]⟩
def slashT : ByteArray := ⟨#[47]⟩
def nilT : ByteArray := ⟨#[]⟩
/-- A line, as the program reads it. -/
def pathI (t : ByteArray) : List ByteArray := if trimB t = nilT then [] else cutS 47 (trimB t)
def mI (l : ByteArray) : Mk := (pathI (ofL (Lib.cut (bl l) [32]).2.1), decide (ofL (Lib.cut (bl l) [32]).1 = subT))
def parI (text : ByteArray) : List Mk := ((cutS 10 text).take ((cutS 10 text).length - 1)).map mI
noncomputable def readI (text : ByteArray) : List Mk × Bool := if trailOk (parI text) = true ∧ marksX (parI text) = text then (parI text, true) else ([], false)
/-- .. and as the reference does. -/
def mS (l : ByteArray) : Option Mk :=
  match cutS 32 l with
  | [a, b] => if (a ≠ subT ∧ a ≠ atTx) ∨ b = nilT ∨ (bl b).head? ≠ some 47 then none
    else some (if b = slashT then [] else (cutS 47 b).drop 1, decide (a = subT))
  | _ => none
def optAll {α β : Type} (f : α → Option β) : List α → Option (List β)
  | [] => some []
  | a :: r => (f a).bind fun b => (optAll f r).map fun bs => b :: bs
def parS (text : ByteArray) : Option (List Mk) := optAll mS ((cutS 10 text).take (min 7 ((cutS 10 text).length - 1)))
noncomputable def readS (text : ByteArray) : List Mk × Bool :=
  match parS text with
  | none => ([], false)
  | some ms => if trailOk ms = true ∧ marksX ms = text then (ms, true) else ([], false)

theorem optAll_snoc {α β : Type} {f : α → Option β} : ∀ {l : List α} {bs : List β} {a : α} {b : β}, optAll f l = some bs → f a = some b → optAll f (l ++ [a]) = some (bs ++ [b])
  | [], bs, a, b, h, ha => by
    simp only [optAll, Option.some.injEq] at h
    subst h
    simp [optAll, ha]
  | x :: l, bs, a, b, h, ha => by
    simp only [optAll, Option.bind_eq_some_iff, Option.map_eq_some_iff] at h
    obtain ⟨y, hy, ys, hys, rfl⟩ := h
    simp [optAll, hy, optAll_snoc hys ha]
theorem optAll_none {α β : Type} {f : α → Option β} : ∀ {l : List α} {j : Nat} {a : α}, l[j]? = some a → f a = none → optAll f l = none
  | x :: l, 0, a, h, ha => by
    simp at h; subst h
    simp [optAll, ha]
  | x :: l, j + 1, a, h, ha => by
    have := optAll_none (l := l) (j := j) (by simpa using h) ha
    simp [optAll, this]
theorem optAll_map {α β : Type} {f : α → Option β} {g : β → α} : ∀ {bs : List β}, (∀ b, b ∈ bs → f (g b) = some b) → optAll f (bs.map g) = some bs
  | [], _ => rfl
  | b :: bs, h => by
    have ih := optAll_map (f := f) (g := g) (bs := bs) fun c hc => h c (List.mem_cons_of_mem _ hc)
    simp [optAll, h b (by simp), ih]

/-! ### Good marks -/
def okNm (p : ByteArray) : Prop := (∀ b, b ∈ bl p → okB b.toNat) ∧ 1 ≤ p.size ∧ p.size ≤ 5
theorem nameOk_okNm {p : ByteArray} (h : nameOk p = true) : okNm p := by
  simp only [nameOk, Bool.and_eq_true, decide_eq_true_eq, inB] at h
  refine ⟨fun b hb => ?_, by omega, by omega⟩
  obtain ⟨j, hj⟩ := List.getElem?_of_mem hb
  have hlt : j < (bl p).length := (List.getElem?_eq_some_iff.1 hj).1
  rw [size_bl] at hlt
  rw [bl_get p j hlt] at hj
  cases hj
  exact h.1 j hlt
theorem allNames_ok : ∀ {ps : List ByteArray}, allNames ps = true → ∀ p, p ∈ ps → okNm p
  | x :: r, h, p, hp => by
    simp only [allNames, Bool.and_eq_true] at h
    rcases List.mem_cons.1 hp with rfl | hp
    · exact nameOk_okNm h.1
    · exact allNames_ok h.2 p hp
def okMk (m : Mk) : Prop := (∀ p, p ∈ m.1 → okNm p) ∧ m.1.length ≤ 4
theorem trail_marks {ms : List Mk} (h : trailOk ms = true) : (∀ m, m ∈ ms → okMk m) ∧ ms.length ≤ 6 := by
  simp only [trailOk, Bool.and_eq_true, decide_eq_true_eq] at h
  refine ⟨fun m hm => ?_, by omega⟩
  obtain ⟨j, hj⟩ := List.getElem?_of_mem hm
  have h1 := h.1 j m hj
  simp only [goodAt, Bool.and_eq_true] at h1
  have h2 := h1.1
  unfold markOkB at h2
  split at h2
  · rename_i e
    rw [okMk, e]; simp
  · simp only [Bool.and_eq_true, inB, decide_eq_true_eq] at h2
    exact ⟨allNames_ok h2.1, by omega⟩
theorem okB_no {b : UInt8} {c : UInt8} (h : okB b.toNat) (hc : c = 47 ∨ c = 32 ∨ c = 10) : b ≠ c := by
  rintro rfl
  unfold okB at h
  rcases hc with rfl | rfl | rfl <;> simp at h
theorem nm_no {p : ByteArray} (h : okNm p) {c : UInt8} (hc : c = 47 ∨ c = 32 ∨ c = 10) : c ∉ bl p := fun hm => okB_no (h.1 c hm) hc rfl
theorem sh_no : ∀ {ps : List ByteArray}, (∀ p, p ∈ ps → okNm p) → ∀ {c : UInt8}, c = 32 ∨ c = 10 → c ∉ bl (shN ps)
  | [], _, c, hc => by simp [shN]
  | p :: r, h, c, hc => by
    rw [shN, bl_append, bl_append]
    intro hm
    rcases List.mem_append.1 hm with hm | hm
    · rcases List.mem_append.1 hm with hm | hm
      · have : c = 47 := by simpa using hm
        rcases hc with rfl | rfl <;> simp at this
      · exact nm_no (h p (by simp)) (by rcases hc with h | h; exact .inr (.inl h); exact .inr (.inr h)) hm
    · exact sh_no (fun q hq => h q (by simp [hq])) hc hm
theorem path_no {m : Mk} (h : okMk m) {c : UInt8} (hc : c = 32 ∨ c = 10) : c ∉ bl (pathT m.1) := by
  unfold pathT
  split
  · rcases hc with rfl | rfl <;> simp
  · exact sh_no h.1 hc
theorem cut_sh : ∀ {r : List ByteArray} {p : ByteArray}, (∀ q, q ∈ p :: r → okNm q) → cutL 47 (bl p ++ bl (shN r)) = (p :: r).map bl
  | [], p, h => by
    simp only [shN, bl_empty, List.append_nil, List.map_cons, List.map_nil]
    exact cutL_none (nm_no (h p (by simp)) (.inl rfl))
  | q :: r, p, h => by
    have e : bl (shN (q :: r)) = 47 :: (bl q ++ bl (shN r)) := by rw [shN, bl_append, bl_append]; rfl
    rw [e, cutL_at (nm_no (h p (by simp)) (.inl rfl)), cut_sh fun s hs => h s (by simp at hs; simp [hs])]
    rfl
theorem map_ofL_bl (ps : List ByteArray) : (ps.map bl).map ofL = ps := by
  rw [List.map_map]
  have : (ofL ∘ bl) = id := by funext x; exact ofL_bl x
  rw [this, List.map_id]
theorem path_back {m : Mk} (h : okMk m) : pathI (pathT m.1) = m.1 ∧ (if pathT m.1 = slashT then [] else (cutS 47 (pathT m.1)).drop 1) = m.1 ∧ pathT m.1 ≠ nilT ∧ (bl (pathT m.1)).head? = some 47 := by
  obtain ⟨ps, d⟩ := m
  have h := h.1
  simp only at h ⊢
  cases ps with
  | nil =>
    refine ⟨?_, ?_, ?_, rfl⟩
    · have : trimB slashT = nilT := by
        rw [trimB, if_pos ⟨by decide, by apply bl_inj; rw [bl_extract]; rfl⟩]
        apply bl_inj; rw [bl_extract]; rfl
      show pathI slashT = []
      rw [pathI, if_pos this]
    · rw [if_pos (show pathT [] = slashT from rfl)]
    · intro e
      have := congrArg ByteArray.size e
      exact absurd this (by decide)
  | cons p r =>
    have hp : pathT (p :: r) = shN (p :: r) := by rw [pathT, if_neg (by simp)]
    rw [hp]
    have e : bl (shN (p :: r)) = 47 :: (bl p ++ bl (shN r)) := by rw [shN, bl_append, bl_append]; rfl
    have hsz := shN_size (p :: r)
    have hp1 := (h p (by simp)).2.1
    have hs2 : 2 ≤ (shN (p :: r)).size := by
      rw [hsz, List.length_cons, sumS]; omega
    have hcut := cut_sh h
    have htr : bl (trimB (shN (p :: r))) = bl p ++ bl (shN r) := by
      have h1 : (shN (p :: r)).extract 0 1 = ⟨#[47]⟩ := by
        apply bl_inj; rw [bl_extract, e]; rfl
      rw [trimB, if_pos ⟨by omega, h1⟩, bl_extract, e]
      rw [List.drop_one, List.tail_cons]
      apply List.take_of_length_le
      have := size_bl (shN (p :: r))
      rw [e, List.length_cons] at this
      omega
    refine ⟨?_, ?_, ?_, by rw [e]; rfl⟩
    · have hne : ¬ trimB (shN (p :: r)) = nilT := fun e2 => by
        rw [e2] at htr
        have : bl nilT = [] := rfl
        rw [this] at htr
        have h2 := congrArg List.length htr
        rw [List.length_append, size_bl] at h2
        simp at h2
        have h3 : p.size = 0 := by omega
        omega
      rw [pathI, if_neg hne, cutS, htr, hcut, map_ofL_bl]
    · have hne : ¬ shN (p :: r) = slashT := fun e2 => by
        have h2 := congrArg ByteArray.size e2
        have : slashT.size = 1 := rfl
        omega
      rw [if_neg hne, cutS, e]
      have := cutL_at (c := 47) (a := []) (r := bl p ++ bl (shN r)) (by simp)
      rw [List.nil_append] at this
      rw [this, hcut, List.map_cons, List.drop_one, List.tail_cons, map_ofL_bl]
    · intro e2
      have h2 := congrArg ByteArray.size e2
      have : nilT.size = 0 := rfl
      omega

def wordL (d : Bool) : List UInt8 := if d = true then [115, 117, 98] else [97, 116]
def lineL (m : Mk) : List UInt8 := wordL m.2 ++ 32 :: bl (pathT m.1)
theorem word_no (d : Bool) : (32 : UInt8) ∉ wordL d ∧ (10 : UInt8) ∉ wordL d := by cases d <;> simp [wordL]
theorem word_sub (d : Bool) : decide (ofL (wordL d) = subT) = d := by
  cases d
  · simp only [decide_eq_false_iff_not]
    intro e
    have := congrArg ByteArray.size e
    exact absurd this (by decide)
  · simp only [decide_eq_true_eq]; rfl
theorem bl_markX (m : Mk) : bl (markX m) = lineL m ++ [10] := by
  obtain ⟨ps, d⟩ := m
  cases d
  · simp only [markX, lineL, wordL, bl_append]
    rfl
  · simp only [markX, lineL, wordL, bl_append]
    rfl
theorem mI_line {m : Mk} (h : okMk m) : mI (ofL (lineL m)) = m := by
  unfold mI
  rw [bl_ofL, lineL, cut_at (word_no m.2).1]
  simp only
  rw [ofL_bl, (path_back h).1, word_sub]
theorem mS_line {m : Mk} (h : okMk m) : mS (ofL (lineL m)) = some m := by
  obtain ⟨h1, h2, h3, h4⟩ := path_back h
  have hc : cutS 32 (ofL (lineL m)) = [ofL (wordL m.2), pathT m.1] := by
    rw [cutS, bl_ofL, lineL, cutL_at (word_no m.2).1, cutL_none (path_no h (.inl rfl))]
    simp [ofL_bl]
  unfold mS
  rw [hc]
  simp only
  rw [if_neg, h2, word_sub]
  rintro (⟨e1, e2⟩ | e | e)
  · cases hd : m.2
    · rw [hd] at e2; exact e2 rfl
    · rw [hd] at e1; exact e1 rfl
  · exact h3 e
  · exact e h4
theorem lines_of : ∀ {ms : List Mk}, (∀ m, m ∈ ms → okMk m) → cutL 10 ((ms.map fun m => lineL m ++ [10]).flatten) = ms.map lineL ++ [[]]
  | [], _ => rfl
  | m :: ms, h => by
    have hm := h m (by simp)
    have hno : (10 : UInt8) ∉ lineL m := by
      intro hh
      rcases List.mem_append.1 hh with hh | hh
      · exact (word_no m.2).2 hh
      · rcases List.mem_cons.1 hh with hh | hh
        · simp at hh
        · exact path_no hm (.inr rfl) hh
    have e : ((m :: ms).map fun m => lineL m ++ [10]).flatten = lineL m ++ 10 :: (ms.map fun m => lineL m ++ [10]).flatten := by simp
    rw [e, cutL_at hno, lines_of fun x hx => h x (by simp [hx])]
    rfl
theorem bl_marksX (ms : List Mk) : bl (marksX ms) = (ms.map fun m => lineL m ++ [10]).flatten := by
  have h : ∀ (ms : List Mk) (a : ByteArray), bl (ms.foldl (fun a m => a ++ markX m) a) = bl a ++ (ms.map fun m => lineL m ++ [10]).flatten := by
    intro ms
    induction ms with
    | nil => intro a; simp
    | cons m ms ih => intro a; rw [List.foldl_cons, ih, bl_append, bl_markX]; simp
  have := h ms ⟨#[]⟩
  rw [bl_empty, List.nil_append] at this
  exact this
theorem back {ms : List Mk} (h : trailOk ms = true) : parI (marksX ms) = ms ∧ parS (marksX ms) = some ms := by
  obtain ⟨h1, h2⟩ := trail_marks h
  have hl : cutS 10 (marksX ms) = (ms.map fun m => ofL (lineL m)) ++ [ofL []] := by
    rw [cutS, bl_marksX, lines_of h1, List.map_append, List.map_map]; rfl
  constructor
  · unfold parI
    rw [hl]
    have : ((ms.map fun m => ofL (lineL m)) ++ [ofL []]).take (((ms.map fun m => ofL (lineL m)) ++ [ofL []]).length - 1) = ms.map fun m => ofL (lineL m) := by
      rw [List.take_append_of_le_length (by simp)]
      apply List.take_of_length_le; simp
    rw [this, List.map_map]
    conv => rhs; rw [← List.map_id ms]
    exact List.map_congr_left fun m hm => mI_line (h1 m hm)
  · unfold parS
    rw [hl]
    have : ((ms.map fun m => ofL (lineL m)) ++ [ofL []]).take (min 7 (((ms.map fun m => ofL (lineL m)) ++ [ofL []]).length - 1)) = ms.map fun m => ofL (lineL m) := by
      rw [List.take_append_of_le_length (by simp; omega)]
      apply List.take_of_length_le; simp; omega
    rw [this]
    exact optAll_map fun m hm => mS_line (h1 m hm)
theorem read_same (text : ByteArray) : readS text = readI text := by
  unfold readS readI
  split
  · rename_i hp
    rw [if_neg]
    rintro ⟨h1, h2⟩
    have := (back h1).2
    rw [h2, hp] at this
    cases this
  · rename_i ms hp
    split
    · rename_i h
      have := (back h.1).1
      rw [h.2] at this
      rw [this, if_pos h]
    · rename_i hn
      rw [if_neg]
      rintro ⟨h1, h2⟩
      have := (back h1).2
      rw [h2, hp] at this
      cases this
      exact hn ⟨h1, h2⟩
theorem ok_small {ms : List Mk} (h : trailOk ms = true) : ms.length + sumBy szMk ms ≤ 1000 := by
  obtain ⟨h1, h2⟩ := trail_marks h
  have hn : ∀ {ps : List ByteArray}, (∀ p, p ∈ ps → okNm p) → sumS ps ≤ 5 * ps.length := by
    intro ps
    induction ps with
    | nil => intro _; simp [sumS]
    | cons p r ih =>
      intro h
      have := (h p (by simp)).2.2
      have := ih fun q hq => h q (by simp [hq])
      simp only [sumS, List.length_cons]; omega
  have hs : ∀ {l : List Mk}, (∀ m, m ∈ l → okMk m) → sumBy szMk l ≤ 24 * l.length := by
    intro l
    induction l with
    | nil => intro _; simp [sumBy]
    | cons m r ih =>
      intro h
      have hm := h m (by simp)
      have h5 := hn hm.1
      have := hm.2
      have := ih fun q hq => h q (by simp [hq])
      simp only [sumBy, szMk, List.length_cons]; omega
  have := hs h1
  omega
theorem readI_small (text : ByteArray) : (readI text).1.length ≤ 6 ∧ ∀ m, m ∈ (readI text).1 → m.1.length ≤ 4 := by
  unfold readI
  split
  · rename_i h
    obtain ⟨h1, h2⟩ := trail_marks h.1
    exact ⟨h2, fun m hm => (h1 m hm).2⟩
  · simp
end Go.Proofs.YtkblkdnnncklgaaDoor

/- Marks of texts. -/
set_option linter.unusedVariables false
set_option linter.unusedSimpArgs false
namespace Go.Proofs.YtkblkdnnncklgaaDoor
open Go Go.Av

/-- How many figures a number has. -/
def figs (k : Nat) : Nat := if h : k = 0 then 0 else figs (k / 10) + 1
termination_by k
theorem figs_le (k : Nat) : figs k ≤ k := by
  induction k using Nat.strongRecOn with
  | _ k ih =>
    rw [figs]
    by_cases h : k = 0
    · simp [h]
    · rw [dif_neg h]
      have := ih (k / 10) (by omega)
      omega
def digit (n : Nat) : ByteArray := strOfNums [((48 + n % 10 : Nat) : Int)]
theorem size_strOfNums (xs : List Int) : (strOfNums xs).size = xs.length := by
  simp [strOfNums, ByteArray.size]
/-- The figures of a number, ahead of a text. -/
def mtxt (k : Nat) (out : ByteArray) : ByteArray := if h : k = 0 then out else mtxt (k / 10) (digit k ++ out)
termination_by k
theorem mtxt_size (k : Nat) : ∀ out, (mtxt k out).size = out.size + figs k := by
  induction k using Nat.strongRecOn with
  | _ k ih =>
    intro out
    rw [mtxt, figs]
    by_cases h : k = 0
    · simp [h]
    · rw [dif_neg h, dif_neg h, ih (k / 10) (by omega), ByteArray.size_append, digit, size_strOfNums]
      simp; omega
/-- What marks the number k. -/
def mtext (k : Nat) : ByteArray := if k = 0 then ⟨#[109, 48]⟩ else ⟨#[109]⟩ ++ mtxt k ⟨#[]⟩
theorem mtext_size {k : Nat} (h : k ≤ 1000000000000) : (mtext k).size ≤ 9223372036854775807 := by
  unfold mtext
  split
  · show 2 ≤ _; omega
  · rw [ByteArray.size_append, mtxt_size]
    have := figs_le k
    show 1 + (0 + _) ≤ _
    omega

section
variable {w0 : World} {σ : Vw}

theorem markText {k : Nat} (hk : k ≤ 1000000000000) {R : Value → Vw → Prop} (hR : ∀ σ', Keeps σ σ' → R (.string (mtext k)) σ') : AC Tryd.prog w0 n_laws_markText [.int .i64 (k : Nat)] σ R := by
  refine ac_laws_markText ?_
  unfold vc_laws_markText
  rw [pBin_le, pIf_d]
  refine ⟨fun h => ?_, fun h => ?_⟩
  · have : k = 0 := by omega
    subst this
    exact hR σ (Keeps.refl σ)
  · have hk0 : k ≠ 0 := by omega
    have e : mtext k = ⟨#[109]⟩ ++ mtxt k ⟨#[]⟩ := by rw [mtext, if_neg hk0]
    rw [e] at hR
    have hf := figs_le k
    refine loop_rule (m := figs k) (fun m l s => ∃ (n : Nat) (out : ByteArray), m = figs n ∧ n ≤ k ∧ out.size + figs n ≤ 1000000000000 ∧ mtxt n out = mtxt k ⟨#[]⟩ ∧ Keeps σ s ∧ l = [.int .i64 (n : Nat), .string out]) ?_ ⟨k, ⟨#[]⟩, rfl, Nat.le_refl _, by show 0 + _ ≤ _; omega, rfl, Keeps.refl σ, rfl⟩
    rintro m l s L ⟨n, out, rfl, hn, hsz, hm, hkp, rfl⟩ hL
    simp only [vget, List.getD_cons_zero, List.getD_cons_succ]
    rw [pBin_gt, pIf_d]
    refine ⟨fun hpos => ?_, fun h0 => ?_⟩
    · have hn0 : n ≠ 0 := by omega
      have hfig : figs n = figs (n / 10) + 1 := by rw [figs, dif_neg hn0]
      rw [pBin_rem (by omega), pBin_add (by omega)]
      show pConvInt .u8 _ _
      rw [pConv_u8 (by omega), show (48 + ((n : Int) % 10)) = ((48 + n % 10 : Nat) : Int) by omega, pVal1 rfl]
      intro b h1 h2
      refine pStr1 (by rw [get_row h1 put_at]; rfl) ?_
      show pBin Tryd.prog 9 .add (.string (digit n)) _ _
      have hd : (digit n).size = 1 := by rw [digit, size_strOfNums]; rfl
      rw [pBin_cat (by omega)]
      rw [pBin_quo (by omega), show ((n : Int) / 10) = ((n / 10 : Nat) : Int) by omega]
      refine hL _ _ (figs (n / 10)) hfig.symm ⟨n / 10, digit n ++ out, rfl, by omega, by rw [ByteArray.size_append, hd]; omega, ?_, hkp.trans (Keeps.put h2), rfl⟩
      rw [← hm]; conv => rhs; rw [mtxt, dif_neg hn0]
    · have hn0 : n = 0 := by omega
      subst hn0
      rw [mtxt, dif_pos rfl] at hm
      subst hm
      have hs := mtxt_size k ⟨#[]⟩
      show pBin Tryd.prog 9 .add (.string ⟨#[109]⟩) _ _
      rw [pBin_cat (by rw [hs]; show 1 + (0 + _) ≤ _; omega)]
      exact hR s hkp

abbrev mkTexts (k : Nat) (xs : List ByteArray) : List ByteArray := mkS (fun k _ => mtext k) (fun _ => 1) k xs
theorem sum_one {α : Type} (xs : List α) : sumBy (fun _ => 1) xs = xs.length := by
  induction xs with
  | nil => rfl
  | cons a r ih => simp only [sumBy, ih, List.length_cons]; omega

theorem markStringS {F : List Nat} {v : Value} {xs : List ByteArray} {k : Nat} (h : OStrs w0 σ F v xs) (hk : k + xs.length ≤ 1000000000000) {R : Value → Vw → Prop}
    (hR : ∀ σ', KeepsBut F σ σ' → OStrs w0 σ' F v (mkTexts k xs) → R (.int .i64 ((k + xs.length : Nat) : Int)) σ') : AC Tryd.prog w0 n_laws_markStringS [v, .int .i64 (k : Nat)] σ R := by
  refine ac_laws_markStringS ?_
  unfold vc_laws_markStringS
  have e := sum_one xs
  rw [← e] at hk hR
  refine mark_loop (ok_str w0) (mk := fun k _ => mtext k) (cnt := fun _ => 1) h hk ?_ hR
  intro j x k' s ys K hj hlen hkb hx hk' hO hyj hK
  simp only [vget, List.getD_cons_zero, List.getD_cons_succ]
  refine markText (by omega) fun s1 k1 => ?_
  have hO1 := hO.frame (ok_str w0) (σ' := s1) (fun b hb => by
    cases hs : s b with
    | none => exact absurd hs (hO.dom (ok_str w0) b hb).2
    | some r => exact k1 b r hs)
  obtain ⟨b, o, f, c, A, C, r, hix, hb, hr, hc, hA, hOx, hbF, hf, hput⟩ := hO1.focus (ok_str w0) hyj
  obtain ⟨rfl, rfl, hsz⟩ := hOx
  refine hix _ ?_
  refine elem_store hr hc hA rfl ?_
  rw [pBin_add (by omega)]
  rw [pBin_add (by have := h.1; omega)]
  have hO2 := hput (s1.put b { r with cells := A ++ ([.string (mtext k')] ++ C) }) [.string (mtext k')] (mtext k') _ put_at rfl ⟨rfl, rfl, mtext_size (by omega)⟩ (fun i hi hne _ => by simp [Vw.put, hne])
  have := hK _ (k1.but.trans (KeepsBut.put hbF)) hO2
  simpa using this

theorem heldStringS {v : Value} {xs : List ByteArray} {k : Nat} (h : RSl 1 RS (Av.get w0 σ) v (mkTexts k xs)) (hk : k + xs.length ≤ 1000000000000) {R : Value → Vw → Prop}
    (hR : ∀ σ', Keeps σ σ' → R (.int .i64 ((k + xs.length : Nat) : Int)) σ') : AC Tryd.prog w0 n_laws_heldStringS [v, .int .i64 (k : Nat)] σ R := by
  refine ac_laws_heldStringS ?_
  unfold vc_laws_heldStringS
  have e := sum_one xs
  rw [← e] at hk hR
  refine held_loop (n := 1) (Rel := RS) (fun _ _ _ _ hl h => mono_rs hl h) (mk := fun k _ => mtext k) (cnt := fun _ => 1) h hk ?_ hR
  intro j x k' s K hj hkb hx hk' hrd hyj hK
  simp only [vget, List.getD_cons_zero, List.getD_cons_succ]
  have hl := h.le
  rw [mkS_len] at hl
  refine RSl.atp hrd hyj fun p g hg => ?_
  obtain ⟨hg, hs⟩ := hg
  simp only [expl, List.cons.injEq, and_true] at hg
  refine markText (by omega) fun s1 k1 => ⟨k1.stay, ?_⟩
  rw [hg, pBin_sne, pIf_d]
  refine ⟨fun h => absurd rfl h, fun _ => ?_⟩
  rw [pBin_add (by omega)]
  rw [pBin_add (by omega)]
  have := hK _ k1
  simpa using this
end
end Go.Proofs.YtkblkdnnncklgaaDoor

/- Marks of marks. -/
set_option linter.unusedVariables false
set_option linter.unusedSimpArgs false
namespace Go.Proofs.YtkblkdnnncklgaaDoor
open Go Go.Av

section
variable {w0 : World} {σ : Vw}

/-! ### Marks of marks -/
def cMk (m : Mk) : Nat := m.1.length + 1
noncomputable def mkMk (k : Nat) (m : Mk) : Mk := (mkTexts k m.1, decide (((k + m.1.length : Nat) : Int) % 3 = 0))
theorem markMarkS {F : List Nat} {v : Value} {xs : List Mk} {k : Nat} (h : OSl w0 2 (OMk w0) σ F v xs) (hk : k + sumBy cMk xs ≤ 1000000000000) {R : Value → Vw → Prop}
    (hR : ∀ σ', KeepsBut F σ σ' → OSl w0 2 (OMk w0) σ' F v (mkS mkMk cMk k xs) → R (.int .i64 ((k + sumBy cMk xs : Nat) : Int)) σ') : AC Tryd.prog w0 n_laws_markMarkS [v, .int .i64 (k : Nat)] σ R := by
  refine ac_laws_markMarkS ?_
  unfold vc_laws_markMarkS
  refine mark_loop (ok_mk w0) (mk := mkMk) (cnt := cMk) h hk ?_ hR
  intro j x k' s ys K hj hlen hkb hx hk' hO hyj hK
  simp only [vget, List.getD_cons_zero, List.getD_cons_succ]
  obtain ⟨b, o, f, c, A, C, r, hix, hb, hr, hc, hA, hOx, hbF, hf, hput⟩ := hO.focus (ok_mk w0) hyj
  obtain ⟨p, d⟩ := x
  obtain ⟨u, rfl, h4⟩ := hOx
  simp only [cMk] at hk' hK h4
  have hb1 : b ∉ f := fun e => (hf b e).2 rfl
  refine hix _ ?_
  refine field_load hb hr hc hA (y := u) rfl fun g hg => ?_
  rw [hg]
  refine markStringS h4 (by omega) fun s3 k3 o4' => ?_
  have hr3 := k3 b r hr hb1
  rw [pBin_rem (by omega), pBin_eq]
  refine hix _ ?_
  refine field_store hr3 hc hA (by show 1 < 2; omega) rfl ?_
  simp only [List.set_cons_zero, List.set_cons_succ]
  rw [pBin_add (by omega), pBin_add (by have := h.1; omega)]
  have kf : ∀ i, i ∈ f → i ∈ F := fun i hi => (hf i hi).1
  generalize hs4 : s3.put b _ = s4
  have hs4b : ∃ r2, s4 b = some r2 ∧ r2.cells = A ++ ([u, Value.bool (decide (((k' + p.length : Nat) : Int) % 3 = 0))] ++ C) := by rw [← hs4]; exact ⟨_, put_at, rfl⟩
  have hs4o : ∀ i, i ≠ b → s4 i = s3 i := fun i hi => by rw [← hs4]; simp [Vw.put, hi]
  clear hs4
  obtain ⟨r2, hr2, hc2⟩ := hs4b
  have o5 := o4'.frame (ok_str w0) (σ' := s4) fun i hi => hs4o i fun e => hb1 (e ▸ hi)
  have kb : KeepsBut F s s4 := fun i ri hri hiF => by
    rw [hs4o i fun e => hiF (e ▸ hbF)]
    exact k3 i ri hri fun e => hiF (kf i e)
  have := hK s4 kb (hput s4 _ (mkMk k' (p, d)) r2 hr2 hc2 ⟨u, rfl, o5⟩ fun i hi hne hif => ?_)
  · rw [show (k' + (p.length + 1) : Nat) = k' + p.length + 1 by omega] at this
    exact this
  · have dd := hO.dom (ok_mk w0) i hi
    rw [hs4o i hne]
    cases hs : s i with
    | none => exact absurd hs dd.2
    | some ri => exact k3 i ri hs hif
theorem heldMarkS {v : Value} {xs : List Mk} {k : Nat} (h : RSl 2 RMk (Av.get w0 σ) v (mkS mkMk cMk k xs)) (hk : k + sumBy cMk xs ≤ 1000000000000) {R : Value → Vw → Prop}
    (hR : ∀ σ', Keeps σ σ' → R (.int .i64 ((k + sumBy cMk xs : Nat) : Int)) σ') : AC Tryd.prog w0 n_laws_heldMarkS [v, .int .i64 (k : Nat)] σ R := by
  refine ac_laws_heldMarkS ?_
  unfold vc_laws_heldMarkS
  refine held_loop (n := 2) (Rel := RMk) (fun _ _ _ _ hl h => mono_mk hl h) (mk := mkMk) (cnt := cMk) h hk ?_ hR
  intro j x k' s K hj hkb hx hk' hrd hyj hK
  have hl := h.le
  rw [mkS_len] at hl
  obtain ⟨p, d⟩ := x
  simp only [cMk] at hk' hK
  simp only [vget, List.getD_cons_zero, List.getD_cons_succ]
  refine hrd.atf hyj 0 (by omega) fun es g h1 hg => ?_
  obtain ⟨u, rfl, h2⟩ := h1
  simp only [List.getElem?_cons_zero, List.getElem?_cons_succ, Option.some.injEq] at hg
  rw [← hg]
  have h2 : RSl 1 RS (Av.get w0 s) u (mkTexts k' p) := h2
  refine heldStringS h2 (by omega) fun s1 k1 => ?_
  rw [pBin_lt, pIf_d]
  refine ⟨fun h => by omega, fun _ => ?_⟩
  have hrd1 := hrd.mono k1.le fun es x => mono_mk k1.le
  refine hrd1.atf hyj 1 (by omega) fun es g h1 hg => ?_
  obtain ⟨u', rfl, _⟩ := h1
  simp only [List.getElem?_cons_zero, List.getElem?_cons_succ, Option.some.injEq] at hg
  rw [← hg, pBin_rem (by omega), pBin_eq, pBin_b (v := .bool false) (by kernel_rfl) (by simp [mkMk]), pIf_b]
  refine ⟨nofun, fun _ => ?_⟩
  rw [pBin_add (by omega), pBin_add (by omega)]
  have := hK s1 k1
  rw [show (k' + (p.length + 1) : Nat) = k' + p.length + 1 by omega] at this
  exact this

end
end Go.Proofs.YtkblkdnnncklgaaDoor

/- 'TrailRead' by either hand, and the law. -/
set_option linter.unusedVariables false
set_option linter.unusedSimpArgs false
namespace Go.Proofs.YtkblkdnnncklgaaDoor
open Go Go.Av Go.RowKit

theorem none_at {σ s : Vw} (k : Keeps σ s) {i : Nat} (h : s i = none) : σ i = none := by
  cases hs : σ i with
  | none => rfl
  | some r => rw [k i r hs] at h; cases h
theorem ext_stay {w0 : World} {σ σ' : Vw} {v : Value} {n : Nat} (h : Ext σ σ') : Stay w0 σ σ' v n := fun a g _ hc j hj => get_ext h (hc j hj)
theorem readS_fail {text : ByteArray} {i : Nat} {l : ByteArray} (hi : i < min 7 ((cutS 10 text).length - 1)) (hl : (cutS 10 text)[i]? = some l) (h : mS l = none) : readS text = ([], false) := by
  have : parS text = none := optAll_none (j := i) (a := l) (by rw [List.getElem?_take_of_lt hi]; exact hl) h
  unfold readS; rw [this]
theorem mS_len {l : ByteArray} (h : (cutS 32 l).length ≠ 2) : mS l = none := by
  unfold mS
  split
  · rename_i a b e
    rw [e] at h; exact absurd rfl h
  · rfl

section
variable {w0 : World} {σ : Vw}

abbrev OutR (w0 : World) (σ : Vw) (y : List Mk × Bool) (R : Value → Vw → Prop) : Prop :=
  ∀ v F σ', Keeps σ σ' → OSl w0 2 (OMk w0) σ' F v y.1 → (∀ b, b ∈ F → σ b = none) → R (.tuple ⟨[v, .bool y.2]⟩) σ'

theorem read_none {s : Vw} {R : Value → Vw → Prop} (hR : OutR w0 σ ([], false) R) (k : Keeps σ s) {ety : Nat} : pNew w0 ety [] s (fun n s' => R (.tuple ⟨[.slice (some (Addr.mk n 0 none)) 0 0, .bool false]⟩) s') := fun b h1 h2 =>
  hR _ [b] _ (k.trans (Keeps.put h2)) (OAcc.new (ety := ety) h1).osl fun i hi => by rw [List.mem_singleton.1 hi]; exact none_at k h2

theorem spec_l11Copy {v : Value} {ms : List Mk} (h : RSl 2 RMk (Av.get w0 σ) v ms) (hl : ms.length ≤ 1000000) (hp : ∀ m, m ∈ ms → m.1.length ≤ 1000000) {R : Value → Vw → Prop}
    (hR : ∀ v' F σ', Keeps σ σ' → OAcc w0 t_impl_Mark 2 (OMk w0) σ' F v' ms → (∀ b, b ∈ F → σ b = none) → R v' σ') : AC Tryd.prog w0 n_spec_l11Copy [v] σ R := by
  refine ac_spec_l11Copy ?_
  unfold vc_spec_l11Copy
  intro b h1 h2
  have kb : Keeps σ (σ.put b ⟨t_impl_Mark, [], 0, (0, 0)⟩) := Keeps.put h2
  have hb0 : ∀ i, i ∈ [b] → σ i = none := fun i hi => by rw [List.mem_singleton.1 hi]; exact h2
  refine loop_rule (m := ms.length) (fun m l s => ∃ (j : Nat) (v' : Value) (F : List Nat), m + j = ms.length ∧ Keeps σ s ∧ OAcc w0 t_impl_Mark 2 (OMk w0) s F v' (ms.take j) ∧ (∀ i, i ∈ F → σ i = none) ∧ l = [v, v', .int .i64 (j : Nat)]) ?_
    ⟨0, _, [b], by omega, kb, OAcc.new h1, hb0, rfl⟩
  rintro m l s L ⟨j, v', F, hm, ks, ho, hF, rfl⟩ hL
  simp only [vget, List.getD_cons_zero, List.getD_cons_succ]
  have h' := h.mono ks.le fun es x => mono_mk ks.le
  rw [h'.len, pBin_lt, pIf_d]
  refine ⟨fun hi => ?_, fun hi => ?_⟩
  · have hx := List.getElem?_eq_getElem (show j < ms.length by omega)
    generalize hxi : ms[j]'(by omega) = y at hx
    have hyl := hp y (List.mem_of_getElem? hx)
    refine h'.atfp hx 0 (by omega) fun q0 es g hg0 hg => ?_
    obtain ⟨u, rfl, hu⟩ := hg0
    simp only [List.getElem?_cons_zero, List.getElem?_cons_succ, Option.some.injEq] at hg
    refine h'.atfp hx 1 (by omega) fun q1 es g' hg1 hg' => ?_
    obtain ⟨u', rfl, hu'⟩ := hg1
    simp only [List.getElem?_cons_zero, List.getElem?_cons_succ, Option.some.injEq] at hg'
    rw [← hg, ← hg']
    intro c h3 h4
    have kc : Keeps s (s.put c ⟨t_string, [], 0, (0, 0)⟩) := Keeps.put h4
    have hc0 : ∀ i, i ∈ [c] → s i = none := fun i hi => by rw [List.mem_singleton.1 hi]; exact h4
    refine ⟨kc.stay, kc.stay, ?_⟩
    refine (OAcc.new (w0 := w0) (σ := s) (ety := t_string) (n := 1) (O := OStr) h3).allX (ok_str w0) hu kc.le (fun es y hy => ⟨rfl, hy⟩) (by simp; omega) (by omega) fun u2 F1 s1 hext k1 o1 g1 => ⟨ext_stay hext, ?_⟩
    rw [List.nil_append] at o1
    have K1 := k1.old kc hc0
    have hF1 := fresh_in kc hc0 g1
    rw [pVal1 (OSl.one' o1.osl), pVal1 rfl, pVal_2 (OSl.one' o1.osl) rfl]
    have ho1 := ho.frame (ok_mk w0) (K1.but_at fun b hb => (ho.dom (ok_mk w0) b hb).2)
    refine ho1.one (ok_mk w0) (f := F1) (y := y) ⟨u2, rfl, o1.osl⟩ (fun i hi hi' => (ho.dom (ok_mk w0) i hi').2 (hF1 i hi)) (by rw [List.length_take]; omega) (by omega) fun v4 F4 s4 k4 o4 g4 => ?_
    rw [pBin_add (by omega)]
    have KS := ks.trans K1
    refine hL _ _ (m - 1) (by omega) ⟨j + 1, v4, F4, by omega, k4.old KS hF, ?_, fun i hi => ?_, by simp⟩
    · rw [List.take_add_one, hx]; exact o4
    · rcases g4 i hi with h | h | h
      · exact hF i h
      · exact none_at ks (hF1 i h)
      · exact none_at KS h
  · have e : j = ms.length := by omega
    subst e
    rw [List.take_length] at ho
    exact hR v' F s ks ho hF

theorem nil_path : OStrs w0 σ [] (.slice none 0 0) [] := ⟨by simp, by simp, .inl ⟨rfl, rfl, rfl⟩⟩

theorem spec_TrailRead {text : ByteArray} (hs : text.size ≤ 1048576) {R : Value → Vw → Prop} (hR : OutR w0 σ (readS text) R) : AC Tryd.prog w0 n_spec_TrailRead [.string text] σ R := by
  refine ac_spec_TrailRead ?_
  unfold vc_spec_TrailRead
  intro b h1 h2
  have kb : Keeps σ (σ.put b ⟨t_impl_Mark, [], 0, (0, 0)⟩) := Keeps.put h2
  have hb0 : ∀ i, i ∈ [b] → σ i = none := fun i hi => by rw [List.mem_singleton.1 hi]; exact h2
  refine spec_l1Cut (c := 10) (by omega) fun lv LF s1 k1 ol fl => ?_
  have K1 := kb.trans k1
  have new := OAcc.new (w0 := w0) (σ := σ) (ety := t_impl_Mark) (n := 2) (O := OMk w0) h1
  have new1 := new.frame (ok_mk w0) (k1.but_at fun b hb => (new.dom (ok_mk w0) b hb).2)
  have hlr := ol.rel (ok_str w0)
  have hcl := cutS_len 10 text
  have hcp := cutS_pos 10 text
  generalize hL0 : cutS 10 text = lines at ol hlr hcl hcp
  have hN : ∀ i, i < min 7 (lines.length - 1) → i < min 7 ((cutS 10 text).length - 1) := fun i hi => by rw [hL0]; exact hi
  have none_ret : ∀ {i : Nat} {l : ByteArray}, i < min 7 (lines.length - 1) → lines[i]? = some l → mS l = none → OutR w0 σ ([], false) R := fun hi hl hm => by
    have := readS_fail (hN _ hi) (by rw [hL0]; exact hl) hm
    rw [this] at hR; exact hR
  refine loop_rule (m := lines.length) (fun m l s => ∃ (i : Nat) (v : Value) (F : List Nat) (bs : List Mk), m + i = lines.length ∧ i ≤ min 7 (lines.length - 1) ∧ Keeps σ s ∧ OStrs w0 s LF lv lines ∧ (∀ j, j ∈ LF → j ∉ F) ∧ OAcc w0 t_impl_Mark 2 (OMk w0) s F v bs ∧ bs.length = i ∧ (∀ j, j ∈ F → σ j = none) ∧ optAll mS (lines.take i) = some bs ∧
      l = [.string text, .slice none 0 0, .bool false, v, lv, .int .i64 (i : Nat)]) ?_
    ⟨0, _, [b], [], by omega, by omega, K1, ol, (fun j hj hj' => (new.dom (ok_mk w0) j hj').2 (fl j hj)), new1, rfl, hb0, rfl, rfl⟩
  rintro m l s L ⟨i, v, F, bs, hm, hiN, ks, hol, hdl, ho, hbl, hF, hopt, rfl⟩ hL
  simp only [vget, List.getD_cons_zero, List.getD_cons_succ]
  have hlr' := hol.rel (ok_str w0)
  have fin : i = min 7 (lines.length - 1) → AC Tryd.prog w0 n_spec_TrailOk [v] s (fun v86 s87 => pUn UnOp.not v86 (fun v88 => pIf v88 (pNew w0 t_impl_Mark [] s87 (fun n89 s90 => R (.tuple (⟨[.slice (some (Addr.mk n89 0 none)) 0 0, .bool false]⟩)) s90)) (AC Tryd.prog w0 n_spec_TrailShow [v] s87 (fun v91 s92 => pBin Tryd.prog 9 .neq v91 (.string text) (fun v93 => pIf v93 (pNew w0 t_impl_Mark [] s92 (fun n94 s95 => R (.tuple (⟨[.slice (some (Addr.mk n94 0 none)) 0 0, .bool false]⟩)) s95)) (AC Tryd.prog w0 n_spec_l11Copy [v] s92 (fun v96 s97 => R (.tuple (⟨[v96, .bool true]⟩)) s97))))))) := by
    intro hi
    have hp : parS text = some bs := by unfold parS; rw [hL0, ← hi]; exact hopt
    have hr : readS text = if trailOk bs = true ∧ marksX bs = text then (bs, true) else ([], false) := by unfold readS; rw [hp]
    have hrel := ho.osl.rel (ok_mk w0)
    refine spec_TrailOk hrel ?_
    rw [pUn_not, pIf_b]
    refine ⟨fun hn => ?_, fun hn => ?_⟩
    · have hn : trailOk bs = false := by simpa using hn
      rw [hr, if_neg (by rw [hn]; simp)] at hR
      exact read_none hR ks
    · have hn : trailOk bs = true := by simpa using hn
      have hsm := ok_small hn
      refine spec_TrailShow hrel (by omega) ?_
      rw [showM, if_pos hn, pBin_sne, pIf_d]
      refine ⟨fun hne => ?_, fun he => ?_⟩
      · rw [hr, if_neg (fun h => hne h.2)] at hR
        exact read_none hR ks
      · rw [hr, if_pos ⟨hn, Decidable.not_not.1 he⟩] at hR
        have hmk := trail_marks hn
        refine spec_l11Copy hrel (by omega) (fun m hm => by have := (hmk.1 m hm).2; omega) fun v3 F3 s3 k3 o3 f3 => ?_
        exact hR v3 F3 s3 (ks.trans k3) o3.osl fun j hj => none_at ks (f3 j hj)
  rw [pBin_add (by omega), hlr.len, pBin_lt, pIf_d]
  refine ⟨fun hi1 => ?_, fun hi1 => fin (by omega)⟩
  rw [pBin_le, pIf_d]
  refine ⟨fun hi6 => ?_, fun hi6 => fin (by omega)⟩
  have hiN' : i < min 7 (lines.length - 1) := by omega
  have hx := List.getElem?_eq_getElem (show i < lines.length by omega)
  generalize hxi : lines[i]'(by omega) = line at hx
  have hlsz : line.size ≤ 1048576 := by
    have := cutS_mem (c := 10) (s := text) (w := line) (by rw [hL0]; exact List.mem_of_getElem? hx)
    omega
  have nr : mS line = none → OutR w0 σ ([], false) R := fun h => none_ret hiN' hx h
  refine RSl.at1 hlr' hx fun g hg hgs => ?_
  rw [hg]
  refine spec_l1Cut (c := 32) (by omega) fun wv WF s2 k2 ow fw => ?_
  have hwr := ow.rel (ok_str w0)
  have K2 := ks.trans k2
  rw [hwr.len, pBin_ne, pIf_d]
  refine ⟨fun hne => read_none (nr (mS_len fun h => hne (by rw [h]; rfl))) K2, fun heq => ?_⟩
  have hlen2 : (cutS 32 line).length = 2 := by omega
  obtain ⟨a, bb, hw⟩ : ∃ a bb, cutS 32 line = [a, bb] := by
    match h : cutS 32 line, hlen2 with
    | [a, bb], _ => exact ⟨a, bb, rfl⟩
  have hmS : mS line = if (a ≠ subT ∧ a ≠ atTx) ∨ bb = nilT ∨ (bl bb).head? ≠ some 47 then none else some (if bb = slashT then [] else (cutS 47 bb).drop 1, decide (a = subT)) := by
    unfold mS; rw [hw]
  have hbsz : bb.size ≤ 1048576 := by
    have := cutS_mem (c := 32) (s := line) (w := bb) (by rw [hw]; simp)
    omega
  rw [hw] at hwr
  refine RSl.at1 (w0 := w0) (σ := s2) hwr (j := 0) (x := a) rfl fun g0 hg0 _ => ?_
  rw [hg0, pBin_sne, pIf_d]
  refine ⟨fun ha => ?a, fun ha => ?b⟩
  case' a =>
    refine RSl.at1 (w0 := w0) (σ := s2) hwr (j := 0) (x := a) rfl fun g0' hg0' _ => ?_
    rw [hg0', pBin_sne, pIf_d]
    refine ⟨fun ha2 => read_none (nr (by rw [hmS, if_pos (.inl ⟨ha, ha2⟩)])) K2, fun ha2 => ?_⟩
    have hword : ¬ (a ≠ subT ∧ a ≠ atTx) := fun h => ha2 h.2
  case' b =>
    have hword : ¬ (a ≠ subT ∧ a ≠ atTx) := fun h => ha h.1
  all_goals
    refine RSl.at1 (w0 := w0) (σ := s2) hwr (j := 1) (x := bb) rfl fun g1 hg1 _ => ?_
    rw [hg1, pBin_seq, pIf_d]
    refine ⟨fun hb => read_none (nr (by rw [hmS, if_pos (.inr (.inl hb))])) K2, fun hb => ?_⟩
    refine RSl.at1 (w0 := w0) (σ := s2) hwr (j := 1) (x := bb) rfl fun g2 hg2 _ => ?_
    have hb1 : 0 < bb.size := by
      rcases Nat.eq_zero_or_pos bb.size with h | h
      · have e0 : bl bb = [] := List.eq_nil_of_length_eq_zero (by rw [size_bl]; exact h)
        exact absurd (bl_inj (by rw [e0])) hb
      · exact h
    have hhd : (bl bb).head? = some (bb[0]'hb1) := by rw [List.head?_eq_getElem?]; exact bl_get bb 0 hb1
    rw [hg2]
    refine pIndexStr_s (j := 0) hb1 ?_
    generalize bb[0]'hb1 = b0 at hhd
    have hne47 : ¬ (b0.toNat : Int) = 47 → (bl bb).head? ≠ some 47 := fun hne e => by
      rw [hhd] at e
      have e := Option.some.inj e
      subst e
      exact hne rfl
    rw [pBin_ne, pIf_d]
    refine ⟨fun hb0 => read_none (nr (by rw [hmS, if_pos (.inr (.inr (hne47 hb0)))])) K2, fun hb0 => ?_⟩
    have hhd' : ¬ (bl bb).head? ≠ some 47 := by
      rw [hhd]
      intro e
      exact e (congrArg some (UInt8.toNat_inj.1 (by have := Decidable.not_not.1 hb0; show b0.toNat = 47; omega)))
    have hsome : mS line = some (if bb = slashT then [] else (cutS 47 bb).drop 1, decide (a = subT)) := by
      rw [hmS, if_neg]
      rintro (h | h | h)
      · exact hword h
      · exact hb h
      · exact hhd' h
    refine RSl.at1 (w0 := w0) (σ := s2) hwr (j := 0) (x := a) rfl fun g3 hg3 _ => ?_
    rw [hg3, pBin_seq, pVal1 rfl, pVal_2 rfl rfl]
    refine RSl.at1 (w0 := w0) (σ := s2) hwr (j := 1) (x := bb) rfl fun g4 hg4 _ => ?_
    rw [hg4, pBin_sne, pIf_d]
    have ho2 := ho.frame (ok_mk w0) (k2.but_at fun b hb => (ho.dom (ok_mk w0) b hb).2)
    have hol2 := hol.frame (ok_str w0) (k2.but_at fun b hb => (hol.dom (ok_str w0) b hb).2)
    refine ⟨fun hsl => ?_, fun hsl => ?_⟩
    · refine RSl.at1 (w0 := w0) (σ := s2) hwr (j := 1) (x := bb) rfl fun g5 hg5 _ => ?_
      rw [hg5]
      refine spec_l1Cut (c := 47) (by omega) fun pv PF s3 k3 op fp => ?_
      refine strs_tail op (cutS_pos 47 bb) fun pv' PF' hsub op' => ?_
      rw [pVal1 (OSl.one' op'), pVal_2 (OSl.one' op') rfl]
      have ho3 := ho2.frame (ok_mk w0) (k3.but_at fun b hb => (ho2.dom (ok_mk w0) b hb).2)
      have hol3 := hol2.frame (ok_str w0) (k3.but_at fun b hb => (hol2.dom (ok_str w0) b hb).2)
      refine ho3.one (ok_mk w0) (f := PF') (y := ((cutS 47 bb).drop 1, decide (a = subT))) ⟨pv', rfl, op'⟩ (fun j hj hj' => (ho2.dom (ok_mk w0) j hj').2 (fp j (hsub j hj))) (by omega) (by omega) fun v4 F4 s4 k4 o4 f4 => ?_
      rw [pBin_add (by omega)]
      rw [if_neg (show ¬ bb = slashT from hsl)] at hsome
      refine hL _ _ (m - 1) (by omega) ⟨i + 1, v4, F4, _, by omega, by omega, k4.old (K2.trans k3) hF, hol3.frame (ok_str w0) (k4.at (fun b hb => (hol3.dom (ok_str w0) b hb).2) hdl), fun j hj hj' => ?_, o4, by simp [hbl], fun j hj => ?_, ?_, by simp⟩
      · rcases f4 j hj' with h | h | h
        · exact hdl j hj h
        · exact (hol2.dom (ok_str w0) j hj).2 (fp j (hsub j h))
        · exact (hol3.dom (ok_str w0) j hj).2 h
      · rcases f4 j hj with h | h | h
        · exact hF j h
        · exact none_at K2 (fp j (hsub j h))
        · exact none_at (K2.trans k3) h
      · rw [List.take_add_one, hx]; exact optAll_snoc hopt hsome
    · rw [pVal_2 rfl rfl]
      have hsl : bb = slashT := Decidable.not_not.1 hsl
      refine ho2.one (ok_mk w0) (f := []) (y := ([], decide (a = subT))) ⟨_, rfl, nil_path⟩ (by simp) (by omega) (by omega) fun v4 F4 s4 k4 o4 f4 => ?_
      rw [pBin_add (by omega)]
      rw [if_pos hsl] at hsome
      refine hL _ _ (m - 1) (by omega) ⟨i + 1, v4, F4, _, by omega, by omega, k4.old K2 hF, hol2.frame (ok_str w0) (k4.at (fun b hb => (hol2.dom (ok_str w0) b hb).2) hdl), fun j hj hj' => ?_, o4, by simp [hbl], fun j hj => ?_, ?_, by simp⟩
      · rcases f4 j hj' with h | h | h
        · exact hdl j hj h
        · cases h
        · exact (hol2.dom (ok_str w0) j hj).2 h
      · rcases f4 j hj with h | h | h
        · exact hF j h
        · cases h
        · exact none_at K2 h
      · rw [List.take_add_one, hx]; exact optAll_snoc hopt hsome

theorem impl_linesOf (mx : MaxL w0) {text : ByteArray} (hs : text.size ≤ 1048576) {R : Value → Vw → Prop} (hR : ∀ v σ', Keeps σ σ' → RSl 1 RS (Av.get w0 σ') v ((cutS 10 text).take ((cutS 10 text).length - 1)) → R v σ') : AC Tryd.prog w0 n_impl_linesOf [.string text] σ R := by
  refine ac_impl_linesOf ?_
  unfold vc_impl_linesOf
  have hcl := cutS_len 10 text
  have hcp := cutS_pos 10 text
  refine strings_Split mx (c := 10) (by omega) fun v F s k o f => ?_
  have hr := o.rel (ok_str w0)
  rw [hr.len, pBin_sub (by omega)]
  refine hr.slice (l := 0) (u := (cutS 10 text).length - 1) rfl (by show some _ = some _; congr 1; omega) (by omega) (by omega) fun v' hv' => ?_
  rw [List.drop_zero] at hv'
  exact hR v' s k hv'

theorem impl_pathRead (mx : MaxL w0) {t : ByteArray} (hs : t.size ≤ 1048576) {R : Value → Vw → Prop} (hR : ∀ v F σ', Keeps σ σ' → OStrs w0 σ' F v (pathI t) → (∀ b, b ∈ F → σ b = none) → R v σ') : AC Tryd.prog w0 n_impl_pathRead [.string t] σ R := by
  refine ac_impl_pathRead ?_
  unfold vc_impl_pathRead
  have hts := trimB_size t
  refine strings_TrimPrefix (by omega) ?_
  show pBin Tryd.prog 9 .eql (.string (trimB t)) (.string ⟨#[]⟩) _
  rw [pBin_seq, pIf_d]
  refine ⟨fun h => ?_, fun h => ?_⟩
  · rw [pathI, if_pos (show trimB t = nilT from h)] at hR
    intro b h1 h2
    exact hR _ [b] _ (Keeps.put h2) (OAcc.new (O := OStr) h1).osl fun i hi => by rw [List.mem_singleton.1 hi]; exact h2
  · rw [pathI, if_neg (show ¬ trimB t = nilT from h)] at hR
    exact strings_Split mx (c := 47) (by omega) fun v F s k o f => hR v F s k o f

theorem impl_TrailRead (mx : MaxL w0) {text : ByteArray} (hs : text.size ≤ 1048576) {R : Value → Vw → Prop} (hR : OutR w0 σ (readI text) R) : AC Tryd.prog w0 n_impl_TrailRead [.string text] σ R := by
  refine ac_impl_TrailRead ?_
  unfold vc_impl_TrailRead
  intro b h1 h2
  have kb : Keeps σ (σ.put b ⟨t_impl_Mark, [], 0, (0, 0)⟩) := Keeps.put h2
  have hb0 : ∀ i, i ∈ [b] → σ i = none := fun i hi => by rw [List.mem_singleton.1 hi]; exact h2
  have hcl := cutS_len 10 text
  have new := OAcc.new (w0 := w0) (σ := σ) (ety := t_impl_Mark) (n := 2) (O := OMk w0) h1
  refine impl_linesOf mx hs fun lv s1 k1 ol => ?_
  have K1 := kb.trans k1
  have new1 := new.frame (ok_mk w0) (k1.but_at fun b hb => (new.dom (ok_mk w0) b hb).2)
  have hpar : parI text = ((cutS 10 text).take ((cutS 10 text).length - 1)).map mI := rfl
  have hmem : ∀ l, l ∈ (cutS 10 text).take ((cutS 10 text).length - 1) → l.size ≤ 1048576 := fun l hl => by
    have := cutS_mem (List.mem_of_mem_take hl); omega
  have hlen : ((cutS 10 text).take ((cutS 10 text).length - 1)).length ≤ 1048577 := by rw [List.length_take]; omega
  generalize hL0 : (cutS 10 text).take ((cutS 10 text).length - 1) = lines at ol hpar hmem hlen
  rw [ol.len]
  refine loop_rule (m := lines.length) (fun m l s => ∃ (i : Nat) (v : Value) (F : List Nat), m + i = lines.length ∧ Keeps σ s ∧ RSl 1 RS (Av.get w0 s) lv lines ∧ OAcc w0 t_impl_Mark 2 (OMk w0) s F v ((lines.take i).map mI) ∧ (∀ j, j ∈ F → σ j = none) ∧
      l = [.string text, v, lv, .int .i64 (lines.length : Nat), .int .i64 (i : Nat)]) ?_
    ⟨0, _, [b], by omega, K1, ol, by simpa using new1, hb0, rfl⟩
  rintro m l s L ⟨i, v, F, hm, ks, hol, ho, hF, rfl⟩ hL
  simp only [vget, List.getD_cons_zero, List.getD_cons_succ]
  rw [pBin_lt, pIf_d]
  refine ⟨fun hi => ?_, fun hi => ?_⟩
  · have hx := List.getElem?_eq_getElem (show i < lines.length by omega)
    generalize hxi : lines[i]'(by omega) = line at hx
    have hlsz := hmem line (List.mem_of_getElem? hx)
    refine RSl.at1 hol hx fun g hg hgs => ?_
    rw [hg]
    have hcut := cut_len 32 (bl line)
    rw [size_bl] at hcut
    refine strings_Cut mx (c := 32) (by omega) ?_
    rw [pExtract_s rfl, pExtract_s rfl, pExtract_s rfl]
    refine impl_pathRead mx (by rw [size_ofL]; omega) fun pv PF s2 k2 op fp => ?_
    show pBin Tryd.prog 9 .eql (.string (ofL (Lib.cut (bl line) [32]).1)) (.string subT) _
    rw [pBin_seq, pVal1 (OSl.one' op), pVal1 rfl, pVal_2 (OSl.one' op) rfl]
    have ho2 := ho.frame (ok_mk w0) (k2.but_at fun b hb => (ho.dom (ok_mk w0) b hb).2)
    refine ho2.oneX (ok_mk w0) (f := PF) (y := mI line) ⟨pv, rfl, op⟩ (fun j hj hj' => (ho.dom (ok_mk w0) j hj').2 (fp j hj)) (by rw [List.length_map, List.length_take]; omega) (by omega) fun v4 F4 s4 hext k4 o4 f4 => ?_
    rw [pBin_add (by omega)]
    have K2 := ks.trans k2
    refine hL _ _ (m - 1) (by omega) ⟨i + 1, v4, F4, by omega, k4.old K2 hF, (hol.mono k2.le fun _ _ h => h).mono (fun a u h => get_ext hext h) fun _ _ h => h, ?_, fun j hj => ?_, by simp⟩
    · rw [List.take_add_one, hx, Option.toList_some, List.map_append]; exact o4
    · rcases f4 j hj with h | h | h
      · exact hF j h
      · exact none_at ks (fp j h)
      · exact none_at K2 h
  · have e : i = lines.length := by omega
    subst e
    rw [List.take_length, ← hpar] at ho
    have hrel := ho.osl.rel (ok_mk w0)
    have hr : readI text = if trailOk (parI text) = true ∧ marksX (parI text) = text then (parI text, true) else ([], false) := rfl
    show AC Tryd.prog w0 n_impl_TrailOk [v] s _
    refine impl_TrailOk hrel ?_
    rw [pUn_not, pIf_b]
    refine ⟨fun hn => ?_, fun hn => ?_⟩
    · have hn : trailOk (parI text) = false := by simpa using hn
      rw [hr, if_neg (by rw [hn]; simp)] at hR
      exact read_none hR ks
    · have hn : trailOk (parI text) = true := by simpa using hn
      have hsm := ok_small hn
      refine impl_TrailShow hrel (by omega) ?_
      rw [showM, if_pos hn, pBin_sne, pIf_d]
      refine ⟨fun hne => ?_, fun he => ?_⟩
      · rw [hr, if_neg (fun h => hne h.2)] at hR
        exact read_none hR ks
      · rw [hr, if_pos ⟨hn, Decidable.not_not.1 he⟩] at hR
        exact hR v F s ks ho.osl hF

theorem law_TrailRead (mx : MaxL w0) {text : ByteArray} (hs : text.size ≤ 9223372036854775807) {R : Value → Vw → Prop} (hR : ∀ σ', R (.bool true) σ') : AC Tryd.prog w0 n_laws_FnExactTrailRead [.string text] σ R := by
  refine ac_laws_FnExactTrailRead ?_
  unfold vc_laws_FnExactTrailRead
  rw [pLenS_s, pBin_gt, pIf_d]
  refine ⟨fun _ => hR _, fun hn => ?_⟩
  have ok := ok_mk w0
  have hsm := readI_small text
  have hc : sumBy cMk (readI text).1 ≤ 100 := by
    have h : ∀ {l : List Mk}, (∀ m, m ∈ l → m.1.length ≤ 4) → sumBy cMk l ≤ 5 * l.length := by
      intro l
      induction l with
      | nil => intro _; simp [sumBy]
      | cons m r ih =>
        intro h
        have := h m (by simp)
        have := ih fun q hq => h q (by simp [hq])
        simp only [sumBy, cMk, List.length_cons]; omega
    have := h hsm.2
    omega
  have eb : ∀ (b : Bool) (K : Value → Prop), pBin Tryd.prog 4 .neq (.bool b) (.bool b) K ↔ K (.bool false) := fun b K => pBin_b (by kernel_rfl) (by simp)
  have hsame := read_same text
  refine spec_TrailRead (by omega) fun w Fw s1 k1 ow fw => ?_
  rw [hsame] at ow ⊢
  rw [pExtract_s rfl, pExtract_s rfl]
  have hw := ow.rel ok
  refine impl_TrailRead mx (by omega) fun g Fg s2 k2 og fg => ?_
  rw [pExtract_s rfl, pExtract_s rfl]
  refine eqMarkS (og.rel ok) (hw.mono k2.le fun _ _ => mono_mk k2.le) ?_
  rw [pUn_not, pIf_b]
  refine ⟨fun h => by simp at h, fun _ => ?_⟩
  rw [eb, pIf_b]
  refine ⟨nofun, fun _ => ?_⟩
  refine markMarkS (k := 1) og (by omega) fun s3 k3 o3 => ?_
  refine heldMarkS (k := 1) (o3.rel ok) (by omega) fun s4 k4 => ?_
  rw [pBin_lt, pIf_d]
  refine ⟨fun h => by omega, fun _ => ?_⟩
  rw [pBin_ne, pIf_d]
  refine ⟨fun h => absurd rfl h, fun _ => ?_⟩
  have k14 : Keeps s1 s4 := (k3.old k2 fg).trans k4
  have o4 := o3.frame ok (k4.but_at fun b hb => (o3.dom ok b hb).2)
  refine impl_TrailRead mx (by omega) fun h Fh s5 k5 oh fh => ?_
  rw [pExtract_s rfl, pExtract_s rfl]
  refine eqMarkS (oh.rel ok) (hw.mono (k14.trans k5).le fun _ _ => mono_mk (k14.trans k5).le) ?_
  rw [pUn_not, pIf_b]
  refine ⟨fun h => by simp at h, fun _ => ?_⟩
  rw [eb, pIf_b]
  refine ⟨nofun, fun _ => ?_⟩
  have o5 := o4.frame ok (k5.but_at fun b hb => (o4.dom ok b hb).2)
  refine heldMarkS (k := 1) (o5.rel ok) (by omega) fun s6 k6 => ?_
  rw [pBin_lt, pIf_d]
  refine ⟨fun h => by omega, fun _ => ?_⟩
  rw [pBin_ne, pIf_d]
  exact ⟨fun h => absurd rfl h, fun _ => hR _⟩
end
end Go.Proofs.YtkblkdnnncklgaaDoor

/- The law FnExactTrailRead holds: it returns true, and the input reads as it did. No condition. -/
namespace Go.Proofs.YtkblkdnnncklgaaDoor.fnExactTrailRead
open Go.ChangeShapes Go.WideShapes Go.ChangeAt Go.RowKit Go.Av
set_option linter.unusedVariables false
set_option linter.unusedSimpArgs false
theorem own : ownKnob Tryd.prog.godebug = none := by kernel_rfl
theorem laidOut : laidOutB Tryd.prog = true := by kernel_rfl
abbrev laidL : List (String × DataW Unit) := [("unicode/utf8.acceptRanges", Rows.laid_unicode_utf8_acceptRanges), ("unicode/utf8.first", Rows.laid_unicode_utf8_first)]
theorem max_of {W : World} (h : W.ShapedOpen Tryd.prog) : MaxL W := by
  obtain ⟨m, hm⟩ := cell_of_shapedOpen_int (g := 0) (t := 3) (zero := #[.int .i64 0]) (k := .i64) h (of_decide_eq_true (by kernel_rfl)) (by kernel_rfl) rfl (by kernel_rfl) (by kernel_rfl) (by kernel_rfl)
  refine ⟨m, fun w hw => ?_⟩
  have hlt : (0 : Nat) < W.heap.size := by
    rcases Nat.lt_or_ge 0 W.heap.size with h' | h'
    · exact h'
    · simp [World.cell?, Array.getElem?_eq_none h'] at hm
  rw [← hm]
  exact hw.cell hlt
/-- The wrap with a condition of its own, the world's shape kept. -/
theorem wrap {H : Type} {enc : TypeId × Value → H} {a : Assume} {C : Checked} {os : Os} {f : FuncId} {fn : Func} {s : ChangeSpec} {conds : List PathCond} {apart fresh handsOn again : Bool} {X : World → Array Value → Prop}
    (own : ownKnob C.prog.godebug = none) (started : os.Started) (noInit : C.prog.inits.idxOf? f = none) (hfn : C.prog.funcs[f]? = some fn)
    (witness : ∃ (w : World) (tape : Tape) (i : Input), w.os = os ∧ (w.forCall tape i).Shaped C.prog ∧ i.vars = [] ∧ Input.okWide C.prog (w.forCall tape i) .any w.heap.size f i ∧
      ((s.pre enc C.prog fn conds apart (w.forCall tape i).memory i.args ∧ X (w.forCall tape i).memory i.args) ∧ sizedMet enc C.prog fn (OpenSpec.ofChange s) apart (w.forCall tape i).memory i.args) ∧ a.holds C.prog (lone (Frame.enter C.prog f i.args .normal) [] (w.forCall tape i)))
    (contract : ∀ (W : World) (base : Nat) (args : Array Value) (ds gs : List (DataW H)) (before : List MemPlace),
      (∀ (j : Nat) t v, fn.params[j]? = some t → args[j]? = some v → Value.okWide C.prog W .any base t v) →
      DataW.Whole enc C.prog fn.params.toList s.vars apart W args.toList ds gs before → W.ShapedOpen C.prog →
      Calls C.prog f args W fun e W' => ∃ v, e = .returned v ∧ s.post enc C.prog fn apart fresh handsOn again W args v W') :
    ReturnsInHanded a C os f .any (fun w args => (s.pre enc C.prog fn conds apart w args ∧ X w args) ∧ sizedMet enc C.prog fn (OpenSpec.ofChange s) apart w args) (s.post enc C.prog fn apart fresh handsOn again) := by
  refine returnsInHanded_of_calls own started noInit witness ?_
  intro w tape i _ hsh _ hok hpre hholds
  obtain ⟨_, _, _, fn', hfn', _, _, _, _, hval⟩ := hok
  have e : fn' = fn := Option.some.inj (hfn'.symm.trans hfn)
  subst e
  obtain ⟨⟨⟨ds, gs, before, hw, hc⟩, hx⟩, hz⟩ := hpre
  have hw' := DataW.Whole.of_heap (w' := w.forCall tape i) (by rfl) hw
  refine (contract (w.forCall tape i) w.heap.size i.args ds gs before hval hw' hsh).mono fun e W' ⟨v, he, hp⟩ => ?_
  subst he
  exact ChangeSpec.post_blind hp
set_option maxRecDepth 100000 in
theorem lifted (os : Os) (started : os.Started) (H : Type) (enc : TypeId × Value → H) :
    ReturnsInHanded {} Tryd.checked os 7 .any (fun w args => (Rows.fnExactTrailReadSpec.pre enc Tryd.prog Tryd.f7 [] false w args ∧ laidMetH Tryd.prog laidL w) ∧ sizedMet enc Tryd.prog Tryd.f7 (OpenSpec.ofChange Rows.fnExactTrailReadSpec) false w args)
      (Rows.fnExactTrailReadSpec.post enc Tryd.prog Tryd.f7 false true false false) := by
  refine wrap (C := Tryd.checked) (X := fun w _ => laidMetH Tryd.prog laidL w) own started (by kernel_rfl) Tryd.func7
    (ChangeSpec.witness_shaped (enc := enc) (C := Tryd.checked) (os := os) (X := fun w _ => laidMetH Tryd.prog laidL w) false (World.laidAll Tryd.prog os laidL) #[.string ⟨#[]⟩] 8 (World.laidAll_os _ _ _)
      (World.shaped_of_ZipB (by kernel_rfl) (by kernel_rfl)) (by kernel_rfl) (by kernel_rfl) (by kernel_rfl)
      (by rw [MakeChecks.laidMetH_plain _ _ _ (by kernel_rfl)]; exact laidMet_laidAll _ (by kernel_rfl) (by kernel_rfl))) ?_
  intro W base args ds gs before hval0 hW hsh
  have hval : ∀ (j : Nat) t v, Tryd.f7.params[j]? = some t → args[j]? = some v → Value.okWide Tryd.prog W .any base t v := hval0
  have hW' := hW
  obtain ⟨p, q, hA0, hV, rfl, hfz, hnd⟩ := hW
  have hA : DataW.TrodAll enc Tryd.prog W 0 (fun _ => true) true Tryd.f7.params.toList args.toList ds p := hA0
  rw [Tryd.params7] at hA hval
  obtain ⟨v0, d0, rfl, rfl, h0⟩ := trodAll_one hA
  obtain ⟨rfl, rfl⟩ := trodVars_none hV
  obtain ⟨s0, rfl⟩ := okWide_string (t := 9) (by kernel_rfl) (hval 0 9 v0 rfl rfl)
  have h0k := h0
  obtain ⟨fuel0, hf0⟩ := h0
  clear hA0 hval0
  simp only [List.append_nil] at hW'
  have hlt : ∀ x ∈ p, x.block < W.heap.size := fun x hx => by simpa using hW'.lt x hx
  have hargs0 : ∀ (W' : World), Below W.heap.size W W' → DataW.Trod enc Tryd.prog W' 0 (fun b => decide (b < W.heap.size)) true 9 (.string s0) d0 p :=
    fun W' hn => Below.trod laidOut (by kernel_rfl) (of_decide_eq_true (by kernel_rfl)) h0k hn hlt
  obtain ⟨m0, e0, r0⟩ := open_str (t := 9) (by kernel_rfl) hf0
  have e0' : m0 = s0 := by
    have : [Value.string s0] = [.string m0] := e0
    cases this; rfl
  subst e0'
  refine ((law_TrailRead (max_of hsh) (R := fun v _ => v = .bool true) r0 (by intros; rfl)).calls).mono fun e W' ⟨v, σ', he, hv, bel⟩ => ?_
  subst he hv
  exact ⟨_, rfl, _, _, _, [], _, [], hW', trodAll_mk1 (shut_bool Tryd.underlying4 _), trodAll_mk1 (hargs0 W' bel), rfl, bel.frame _, fun h => by cases h⟩
theorem over : Rows.fnExactTrailReadRow.holds Tryd.pinned (OpenSpec.ofChange Rows.fnExactTrailReadSpec) :=
  OpenClaim.holds_of_wide 7 Tryd.f7 rfl rfl rfl rfl rfl rfl rfl ⟨rfl, rfl, rfl, rfl, rfl⟩ rfl rfl rfl rfl rfl (by kernel_rfl) Tryd.func7 (by kernel_rfl)
    (of_decide_eq_true (by kernel_rfl)) (by unfold Func.isWrapper; first | (rw [if_pos (by decide +kernel)]; kernel_rfl) | (rw [if_neg (by decide +kernel)]; exact ⟨rfl, rfl⟩))
    (fun os started H enc _ => lifted os started H enc)
/-- THE TIED CARD. -/
theorem proved : Rows.FnExactTrailReadCardSaid :=
  Claim7.holds_tied_plain_at .later [] [.data, .pinned] true (true, "097b56b96c0da62133800e6a83bc0040b4730432f7edb09c50e5d5cc86776feb") true
    over (fun _ h => by cases h) (by kernel_rfl) (fun _ h => by cases h) fnExactTrailRead_row_tie rfl ⟨rfl, rfl⟩ (by kernel_rfl) rfl
    (fun f fn hf hfn => by
      obtain rfl : f = 7 := Option.some.inj ((show Tryd.prog.funcNamed "loop.example/changetrail/laws.FnExactTrailRead" = some 7 by kernel_rfl).symm.trans hf) |>.symm
      obtain rfl : fn = Tryd.f7 := (Option.some.inj (Tryd.func7.symm.trans hfn)).symm
      exact ⟨by kernel_rfl, fun j t ht => by
        rw [Tryd.params7] at ht
        have hm : t ∈ [9] := by simpa using Array.mem_of_getElem? ht
        have hall : ([9].all fun u => !Tryd.prog.wantsStandIn u) = true := by kernel_rfl
        exact (show Tryd.prog.wantsStandIn t = false by simpa using List.all_eq_true.1 hall t hm)⟩)
    (by kernel_rfl)
end Go.Proofs.YtkblkdnnncklgaaDoor.fnExactTrailRead
namespace Go.Proofs.YtkblkdnnncklgaaDoor
/-- The row, under a short name, for the claim. -/
theorem fnExactTrailRead_holds : Rows.FnExactTrailReadCardSaid := fnExactTrailRead.proved
end Go.Proofs.YtkblkdnnncklgaaDoor
