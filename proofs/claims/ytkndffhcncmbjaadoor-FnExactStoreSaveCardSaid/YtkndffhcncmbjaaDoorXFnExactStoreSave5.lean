/- The law FnExactStoreSave holds: it returns true, and the input reads as it did. No condition. This is part 5 of 5 of its proof. -/
import Derived.Test.YtkndffhcncmbjaaDoorXFnExactStoreSave4
import Derived.Shelf.Strings.Builder1
import Derived.Shelf.Strconv.Itoa0
import Derived.Shelf.Strconv.Itoa1
import Derived.Shelf.LaysM
import Derived.Shelf.Strconv.Itoa2
import Derived.Shelf.Strconv.Itoa3
import Derived.Test.YtkndffhcncmbjaaDoorProg
import Derived.Lib.AppendIntMem
import Derived.Test.YtkndffhcncmbjaaDoorRows
import Derived.WalkKit
import Derived.ProofKit
import Derived.OpenShut
import Derived.ShutString
import Derived.ChangeOld
import Derived.Below
import Derived.Carry
import Derived.SizedLaws
import Derived.LaidMore
import Derived.Stop.Joined
import Derived.Stop.LaidErr
import Derived.Lib.LaidTab
import Derived.WalkSmall
import Derived.MakeChecks
import Derived.SevenTiedAt
import Derived.Test.YtkndffhcncmbjaaDoorCards
import Derived.Test.YtkndffhcncmbjaaDoorTie

/-
  DERIVED: THE SHELF's CONTRACTS AT THIS DUMP, IN PLAIN WORDS (tools/lay-plain.mjs out of 'TrydShelf.lean', which tools/lay-shelf.mjs wrote): THE SAME DECLARATIONS UNDER THE SAME NAMES: 'import', 'namespace', 'open', 'def', 'theorem' AND NOTHING ELSE: no command of the shelf's: FOR A HAND-IN. Each laying: the table of numbers ('.._ren') and one theorem, a field a fact of the dump's own or the kernel's comparison; each contract: ONE APPLICATION.
-/
namespace Go.Proofs
open Go.Shelf
def Tryd.lays169_ren : Go.Shelf.Ren := ⟨fun | 169 => 63 | n => n, fun | 70 => 80 | 9 => 9 | 0 => 0 | 72 => 82 | 37 => 52 | 127 => 114 | 3 => 3 | 5 => 5 | n => n, fun | n => n⟩
theorem Tryd.lays169 : Go.Proofs.Lays.n169 Tryd.prog Tryd.lays169_ren := {
  mixed := by kernel_rfl
  f169 := Tryd.func63.trans (congrArg some (by kernel_rfl))
  t0 := Tryd.underlying0
  a0 := Tryd.isAgg0
  z0 := Tryd.sizeOf0
  v0 := Tryd.zeroValue0
  t3 := Tryd.underlying3
  a3 := Tryd.isAgg3
  z3 := Tryd.sizeOf3
  v3 := Tryd.zeroValue3
  t9 := Tryd.underlying9
  a9 := Tryd.isAgg9
  z9 := Tryd.sizeOf9
  v9 := Tryd.zeroValue9
  t37 := Tryd.underlying52
  a37 := Tryd.isAgg52
  z37 := Tryd.sizeOf52
  v37 := Tryd.zeroValue52
  t70 := Tryd.underlying80
  a70 := Tryd.isAgg80
  z70 := Tryd.sizeOf80
  v70 := Tryd.zeroValue80
  t72 := Tryd.underlying82
  a72 := Tryd.isAgg82
  z72 := Tryd.sizeOf82
  v72 := Tryd.zeroValue82
  t127 := Tryd.underlying114
  a127 := Tryd.isAgg114
  z127 := Tryd.sizeOf114
  v127 := Tryd.zeroValue114 }
theorem Tryd.Builder_Extra_169 : Builder.Extra Tryd.prog Tryd.lays169_ren := {
  sizeBuilder := by kernel_rfl
  liesBuilder := by kernel_rfl
  t5 := Tryd.underlying5
  a5 := Tryd.isAgg5
  z5 := Tryd.sizeOf5
  v5 := Tryd.zeroValue5
  infoByte := by kernel_rfl
  cellsByte := by kernel_rfl
  sizeByte := by kernel_rfl
  neB5 := by decide }
open Go.RowKit in
/-- (*strings.Builder).String: "String returns the accumulated string.": OF A BUILDER THAT HOLDS AT LEAST ONE BYTE. ✋ THE MODEL FREEZES THOSE BYTES IN THE BUFFER (unsafe.String): a later write INTO them ends the model's run without an answer; a later append BEHIND them goes on. The statement's order of evaluation is drawn: one draw. (LAID: no walk: one application.) -/
theorem Tryd.Builder_String (B b : Nat) (l : List UInt8) (w : World) (h : Lib.IsBuilder 82 5 B b (Lib.byteCells l) w) (h0 : l ≠ []) :
    Calls Tryd.prog 63 #[.pointer (some ⟨b, 0, none⟩)] w fun e w' => e = .returned (.string ⟨l.toArray⟩) ∧ Below B w w' := Any.Builder_String Tryd.lays169 Tryd.Builder_Extra_169 B b l w h h0
open Go.RowKit in
/-- (*strings.Builder).String OF A BUILDER THAT HOLDS NO BYTE: the empty string. (Its buffer is nil, or a row of which it has taken nothing yet; where that row has NO capacity the model lays one new block for unsafe.SliceData's 'some address'.) One draw. (LAID: no walk: one application.) -/
theorem Tryd.Builder_String_empty (B b : Nat) (w : World) (h : Lib.IsBuilder 82 5 B b [] w) (hBw : B ≤ w.heap.size) :
    Calls Tryd.prog 63 #[.pointer (some ⟨b, 0, none⟩)] w fun e w' => e = .returned (.string ⟨#[]⟩) ∧ Below B w w' := Any.Builder_String_empty Tryd.lays169 Tryd.Builder_Extra_169 B b w h hBw
open Go.RowKit in
/-- (*strings.Builder).String: "String returns the accumulated string.": WHATEVER THE BUILDER HOLDS. (LAID: no walk: one application.) -/
theorem Tryd.Builder_String_any (B b : Nat) (l : List UInt8) (w : World) (h : Lib.IsBuilder 82 5 B b (Lib.byteCells l) w) (hBw : B ≤ w.heap.size) :
    Calls Tryd.prog 63 #[.pointer (some ⟨b, 0, none⟩)] w fun e w' => e = .returned (.string ⟨l.toArray⟩) ∧ Below B w w' := Any.Builder_String_any Tryd.lays169 Tryd.Builder_Extra_169 B b l w h hBw
def Tryd.lays129_ren : Go.Shelf.Ren := ⟨fun | 129 => 122 | n => n, fun | 53 => 145 | 3 => 3 | 4 => 4 | 46 => 162 | 5 => 5 | 9 => 9 | n => n, fun | n => n⟩
theorem Tryd.lays129 : Go.Proofs.Lays.n129 Tryd.prog Tryd.lays129_ren := {
  mixed := by kernel_rfl
  f129 := Tryd.func122.trans (congrArg some (by kernel_rfl))
  t3 := Tryd.underlying3
  a3 := Tryd.isAgg3
  z3 := Tryd.sizeOf3
  v3 := Tryd.zeroValue3
  t4 := Tryd.underlying4
  a4 := Tryd.isAgg4
  z4 := Tryd.sizeOf4
  v4 := Tryd.zeroValue4
  t5 := Tryd.underlying5
  a5 := Tryd.isAgg5
  z5 := Tryd.sizeOf5
  v5 := Tryd.zeroValue5
  t9 := Tryd.underlying9
  a9 := Tryd.isAgg9
  z9 := Tryd.sizeOf9
  v9 := Tryd.zeroValue9
  t46 := Tryd.underlying162
  a46 := Tryd.isAgg162
  z46 := Tryd.sizeOf162
  v46 := Tryd.zeroValue162
  t53 := Tryd.underlying145
  a53 := Tryd.isAgg145
  z53 := Tryd.sizeOf145
  v53 := Tryd.zeroValue145 }
/-- bits.Len64: "Len64 returns the minimum number of bits required to represent x; the result is 0 for x == 0.": IT RETURNS 'Lib.bitLen x'; the world is as it was. ('h0', 'h1': x is a uint64.) (LAID: no walk: one application.) -/
theorem Tryd.bits_Len64 (x : Int) (w : World) (h0 : 0 ≤ x) (h1 : x ≤ 18446744073709551615) :
    Calls Tryd.prog 122 #[.int .u64 x] w fun e w' => e = .returned (.int .i64 (Lib.bitLen x.toNat)) ∧ w' = w := Any.bits_Len64 Tryd.lays129 x w h0 h1
def Tryd.lays317_ren : Go.Shelf.Ren := ⟨fun | 317 => 121 | n => n, fun | 3 => 3 | 46 => 162 | n => n, fun | n => n⟩
theorem Tryd.lays317 : Go.Proofs.Lays.n317 Tryd.prog Tryd.lays317_ren := {
  mixed := by kernel_rfl
  f317 := Tryd.func121.trans (congrArg some (by kernel_rfl))
  t3 := Tryd.underlying3
  a3 := Tryd.isAgg3
  z3 := Tryd.sizeOf3
  v3 := Tryd.zeroValue3
  t46 := Tryd.underlying162
  a46 := Tryd.isAgg162
  z46 := Tryd.sizeOf162
  v46 := Tryd.zeroValue162 }
open Go.Lib in
/-- internal/strconv.log10Pow2: "log10Pow2(x) returns ⌊log₁₀ 2**x⌋ = ⌊x * log₁₀ 2⌋.": '(x * 78913) >> 18', at an x up to 64 (a length in bits). The world is as it was. (LAID: no walk: one application.) -/
theorem Tryd.internal_strconv_log10Pow2 (x : Nat) (h : x ≤ 64) (w : World) :
    Calls Tryd.prog 121 #[.int .i64 x] w fun e w' => e = .returned (.int .i64 (Lib.l10 x)) ∧ w' = w := Any.internal_strconv_log10Pow2 Tryd.lays317 x h w
def Tryd.lays318_ren : Go.Shelf.Ren := ⟨fun | 318 => 123 | n => n, fun | 3 => 3 | 4 => 4 | n => n, fun | n => n⟩
theorem Tryd.lays318 : Go.Proofs.Lays.n318 Tryd.prog Tryd.lays318_ren := {
  mixed := by kernel_rfl
  f318 := Tryd.func123.trans (congrArg some (by kernel_rfl))
  t3 := Tryd.underlying3
  a3 := Tryd.isAgg3
  z3 := Tryd.sizeOf3
  v3 := Tryd.zeroValue3
  t4 := Tryd.underlying4
  a4 := Tryd.isAgg4
  z4 := Tryd.sizeOf4
  v4 := Tryd.zeroValue4 }
open Go.Lib in
/-- internal/strconv.bool2: "bool2 converts b to an integer: 1 for true, 0 for false." The world is as it was. (LAID: no walk: one application.) -/
theorem Tryd.internal_strconv_bool2_int (b : Bool) (w : World) :
    Calls Tryd.prog 123 #[.bool b] w fun e w' => e = .returned (.int .i64 (if b then 1 else 0)) ∧ w' = w := Any.internal_strconv_bool2_int Tryd.lays318 b w
def Tryd.lays283_ren : Go.Shelf.Ren := ⟨fun | 283 => 111 | n => n, fun | 3 => 3 | 9 => 9 | 4 => 4 | n => n, fun | n => n⟩
theorem Tryd.lays283 : Go.Proofs.Lays.n283 Tryd.prog Tryd.lays283_ren := {
  mixed := by kernel_rfl
  f283 := Tryd.func111.trans (congrArg some (by kernel_rfl))
  t3 := Tryd.underlying3
  a3 := Tryd.isAgg3
  z3 := Tryd.sizeOf3
  v3 := Tryd.zeroValue3
  t4 := Tryd.underlying4
  a4 := Tryd.isAgg4
  z4 := Tryd.sizeOf4
  v4 := Tryd.zeroValue4
  t9 := Tryd.underlying9
  a9 := Tryd.isAgg9
  z9 := Tryd.sizeOf9
  v9 := Tryd.zeroValue9 }
open Go.Lib in
/-- internal/strconv.small: "small returns the string for an i with 0 <= i < nSmalls.": i's decimal numeral. The world is as it was. (LAID: no walk: one application.) -/
theorem Tryd.internal_strconv_small (i : Nat) (h : i < 100) (w : World) :
    Calls Tryd.prog 111 #[.int .i64 i] w fun e w' => e = .returned (.string ⟨(Lib.decDigits i).toArray⟩) ∧ w' = w := Any.internal_strconv_small Tryd.lays283 i h w
def Tryd.laysM284_ren : Go.Shelf.Ren := ⟨fun | 284 => 112 | 129 => 122 | 317 => 121 | 318 => 123 | n => n, fun | 53 => 145 | 3 => 3 | 212 => 158 | 0 => 0 | 4 => 4 | 46 => 162 | 5 => 5 | 9 => 9 | n => n, fun | 17 => 0 | n => n⟩
theorem Tryd.laysM284 : Go.Proofs.LaysM.n284 Tryd.prog Tryd.laysM284_ren := {
  mixed := by kernel_rfl
  f129 := Tryd.func122.trans (congrArg some (by kernel_rfl))
  f284 := Tryd.func112.trans (congrArg some (by kernel_rfl))
  f317 := Tryd.func121.trans (congrArg some (by kernel_rfl))
  f318 := Tryd.func123.trans (congrArg some (by kernel_rfl))
  t0 := Tryd.underlying0
  a0 := Tryd.isAgg0
  z0 := Tryd.sizeOf0
  v0 := Tryd.zeroValue0
  t3 := Tryd.underlying3
  a3 := Tryd.isAgg3
  z3 := Tryd.sizeOf3
  v3 := Tryd.zeroValue3
  t4 := Tryd.underlying4
  a4 := Tryd.isAgg4
  z4 := Tryd.sizeOf4
  v4 := Tryd.zeroValue4
  t5 := Tryd.underlying5
  a5 := Tryd.isAgg5
  z5 := Tryd.sizeOf5
  v5 := Tryd.zeroValue5
  t9 := Tryd.underlying9
  a9 := Tryd.isAgg9
  z9 := Tryd.sizeOf9
  v9 := Tryd.zeroValue9
  t46 := Tryd.underlying162
  a46 := Tryd.isAgg162
  z46 := Tryd.sizeOf162
  v46 := Tryd.zeroValue162
  t53 := Tryd.underlying145
  a53 := Tryd.isAgg145
  z53 := Tryd.sizeOf145
  v53 := Tryd.zeroValue145
  t212 := Tryd.underlying158
  a212 := Tryd.isAgg158
  z212 := Tryd.sizeOf158
  v212 := Tryd.zeroValue158
  g17 := by kernel_rfl
  i0 := by kernel_rfl
  i3 := by kernel_rfl
  i4 := by kernel_rfl
  i5 := by kernel_rfl
  i9 := by kernel_rfl
  i46 := by kernel_rfl
  i53 := by kernel_rfl
  i212 := by kernel_rfl
  m17 := by kernel_rfl }
open Go.Lib in
/-- internal/strconv.numDigits, at a d that is not 0: THE NUMBER OF d's DECIMAL DIGITS. The world is as it was. (LAID: no walk: one application.) -/
theorem Tryd.internal_strconv_numDigits (u : Nat) (h1 : 1 ≤ u) (h2 : u < 18446744073709551616) (w : World) (htab : Lib.TabIs Tryd.prog w "internal/strconv.uint64pow10" .u64 Lib.pow10Tab) :
    Calls Tryd.prog 112 #[.int .u64 u] w fun e w' => e = .returned (.int .i64 (Lib.nDigits u)) ∧ w' = w := Any.internal_strconv_numDigits Tryd.laysM284 u h1 h2 w htab
def Tryd.lays285_ren : Go.Shelf.Ren := ⟨fun | 285 => 113 | n => n, fun | 37 => 52 | 53 => 145 | 3 => 3 | 4 => 4 | 51 => 159 | 9 => 9 | 5 => 5 | 0 => 0 | n => n, fun | n => n⟩
theorem Tryd.lays285 : Go.Proofs.Lays.n285 Tryd.prog Tryd.lays285_ren := {
  mixed := by kernel_rfl
  f285 := Tryd.func113.trans (congrArg some (by kernel_rfl))
  t0 := Tryd.underlying0
  a0 := Tryd.isAgg0
  z0 := Tryd.sizeOf0
  v0 := Tryd.zeroValue0
  t3 := Tryd.underlying3
  a3 := Tryd.isAgg3
  z3 := Tryd.sizeOf3
  v3 := Tryd.zeroValue3
  t4 := Tryd.underlying4
  a4 := Tryd.isAgg4
  z4 := Tryd.sizeOf4
  v4 := Tryd.zeroValue4
  t5 := Tryd.underlying5
  a5 := Tryd.isAgg5
  z5 := Tryd.sizeOf5
  v5 := Tryd.zeroValue5
  t9 := Tryd.underlying9
  a9 := Tryd.isAgg9
  z9 := Tryd.sizeOf9
  v9 := Tryd.zeroValue9
  t37 := Tryd.underlying52
  a37 := Tryd.isAgg52
  z37 := Tryd.sizeOf52
  v37 := Tryd.zeroValue52
  t51 := Tryd.underlying159
  a51 := Tryd.isAgg159
  z51 := Tryd.sizeOf159
  v51 := Tryd.zeroValue159
  t53 := Tryd.underlying145
  a53 := Tryd.isAgg145
  z53 := Tryd.sizeOf145
  v53 := Tryd.zeroValue145 }
open Go.RowKit Go.Sort Go.Lib in
/-- internal/strconv.formatBase10: "formatBase10 formats the decimal representation of u into a. The caller is responsible for ensuring that a is big enough to hold u. If a is too big, leading zeros will be filled in as needed.": THE ROW HOLDS u's DIGITS ('FmtInv .. 0 ..': every place t holds 'dg u (len - 1 - t)'); all else is as it was but for the count of draws. (LAID: no walk: one application.) -/
theorem Tryd.internal_strconv_formatBase10 (blk off cap : Nat) (u : Nat) (d : Array UInt8) (w : World) (hH : Holds (fun (b : UInt8) => Value.int .u8 (b.toNat : Int)) w blk off d) (hu : u < 10 ^ d.size) (hu64 : u < 18446744073709551616) (hsz : d.size < 4611686018427387904) :
    Calls Tryd.prog 113 #[.slice (some ⟨blk, off, none⟩) d.size cap, .int .u64 u] w fun e w' =>
      e = .returned (.tuple #[]) ∧ ∃ (n v' : Nat) (dk : Array UInt8), w' = (putRow (fun (b : UInt8) => Value.int .u8 (b.toNat : Int)) w blk off dk).drewN n ∧ FmtInv d.size u 0 v' dk := Any.internal_strconv_formatBase10 Tryd.lays285 blk off cap u d w hH hu hu64 hsz
def Tryd.laysM246_ren : Go.Shelf.Ren := ⟨fun | 246 => 101 | 283 => 111 | 284 => 112 | 285 => 113 | 286 => 114 | 129 => 122 | 317 => 121 | 318 => 123 | 319 => 124 | 320 => 125 | 337 => 127 | 338 => 128 | n => n, fun | 2 => 2 | 3 => 3 | 9 => 9 | 4 => 4 | 171 => 144 | 0 => 0 | 53 => 145 | 37 => 52 | 5 => 5 | 173 => 148 | 212 => 158 | 51 => 159 | 20 => 20 | 213 => 160 | 46 => 162 | 232 => 166 | 233 => 167 | n => n, fun | 17 => 0 | 18 => 1 | 19 => 2 | n => n⟩
theorem Tryd.laysM246 : Go.Proofs.LaysM.n246 Tryd.prog Tryd.laysM246_ren := {
  mixed := by kernel_rfl
  f129 := Tryd.func122.trans (congrArg some (by kernel_rfl))
  f246 := Tryd.func101.trans (congrArg some (by kernel_rfl))
  f283 := Tryd.func111.trans (congrArg some (by kernel_rfl))
  f284 := Tryd.func112.trans (congrArg some (by kernel_rfl))
  f285 := Tryd.func113.trans (congrArg some (by kernel_rfl))
  f286 := Tryd.func114.trans (congrArg some (by kernel_rfl))
  f317 := Tryd.func121.trans (congrArg some (by kernel_rfl))
  f318 := Tryd.func123.trans (congrArg some (by kernel_rfl))
  f319 := Tryd.func124.trans (congrArg some (by kernel_rfl))
  f320 := Tryd.func125.trans (congrArg some (by kernel_rfl))
  f337 := Tryd.func127.trans (congrArg some (by kernel_rfl))
  f338 := Tryd.func128.trans (congrArg some (by kernel_rfl))
  t0 := Tryd.underlying0
  a0 := Tryd.isAgg0
  z0 := Tryd.sizeOf0
  v0 := Tryd.zeroValue0
  t2 := Tryd.underlying2
  a2 := Tryd.isAgg2
  z2 := Tryd.sizeOf2
  v2 := Tryd.zeroValue2
  t3 := Tryd.underlying3
  a3 := Tryd.isAgg3
  z3 := Tryd.sizeOf3
  v3 := Tryd.zeroValue3
  t4 := Tryd.underlying4
  a4 := Tryd.isAgg4
  z4 := Tryd.sizeOf4
  v4 := Tryd.zeroValue4
  t5 := Tryd.underlying5
  a5 := Tryd.isAgg5
  z5 := Tryd.sizeOf5
  v5 := Tryd.zeroValue5
  t9 := Tryd.underlying9
  a9 := Tryd.isAgg9
  z9 := Tryd.sizeOf9
  v9 := Tryd.zeroValue9
  t20 := Tryd.underlying20
  a20 := Tryd.isAgg20
  z20 := Tryd.sizeOf20
  v20 := Tryd.zeroValue20
  t37 := Tryd.underlying52
  a37 := Tryd.isAgg52
  z37 := Tryd.sizeOf52
  v37 := Tryd.zeroValue52
  t46 := Tryd.underlying162
  a46 := Tryd.isAgg162
  z46 := Tryd.sizeOf162
  v46 := Tryd.zeroValue162
  t51 := Tryd.underlying159
  a51 := Tryd.isAgg159
  z51 := Tryd.sizeOf159
  v51 := Tryd.zeroValue159
  t53 := Tryd.underlying145
  a53 := Tryd.isAgg145
  z53 := Tryd.sizeOf145
  v53 := Tryd.zeroValue145
  t171 := Tryd.underlying144
  a171 := Tryd.isAgg144
  z171 := Tryd.sizeOf144
  v171 := Tryd.zeroValue144
  t173 := Tryd.underlying148
  a173 := Tryd.isAgg148
  z173 := Tryd.sizeOf148
  v173 := Tryd.zeroValue148
  t212 := Tryd.underlying158
  a212 := Tryd.isAgg158
  z212 := Tryd.sizeOf158
  v212 := Tryd.zeroValue158
  t213 := Tryd.underlying160
  a213 := Tryd.isAgg160
  z213 := Tryd.sizeOf160
  t232 := Tryd.underlying166
  a232 := Tryd.isAgg166
  z232 := Tryd.sizeOf166
  v232 := Tryd.zeroValue166
  t233 := Tryd.underlying167
  a233 := Tryd.isAgg167
  z233 := Tryd.sizeOf167
  v233 := Tryd.zeroValue167
  g17 := by kernel_rfl
  g18 := by kernel_rfl
  g19 := by kernel_rfl
  i0 := by kernel_rfl
  i2 := by kernel_rfl
  i3 := by kernel_rfl
  i4 := by kernel_rfl
  i5 := by kernel_rfl
  i9 := by kernel_rfl
  i20 := by kernel_rfl
  i37 := by kernel_rfl
  i46 := by kernel_rfl
  i51 := by kernel_rfl
  i53 := by kernel_rfl
  i171 := by kernel_rfl
  i173 := by kernel_rfl
  i212 := by kernel_rfl
  i232 := by kernel_rfl
  i233 := by kernel_rfl
  m17 := by kernel_rfl
  m18 := by kernel_rfl
  m19 := by kernel_rfl }
open Go.RowKit Go.Sort Go.Lib in
/-- internal/strconv.FormatInt: "FormatInt returns the string representation of i in the given base": AT BASE 10: i's decimal numeral, for every int64. The world behind the call: the world before it, new blocks behind the heap, draws. (LAID: no walk: one application.) -/
theorem Tryd.internal_strconv_FormatInt_10 (n : Int) (h0 : -9223372036854775808 ≤ n) (h1 : n ≤ 9223372036854775807) (w : World) (htab : Lib.TabIs Tryd.prog w "internal/strconv.uint64pow10" .u64 Lib.pow10Tab) :
    Calls Tryd.prog 101 #[.int .i64 n, .int .i64 10] w fun e w' => e = .returned (.string ⟨(Lib.itoa n).toArray⟩) ∧ ∃ k os, w' = grow (w.drewN k) os := Any.internal_strconv_FormatInt_10 Tryd.laysM246 n h0 h1 w htab
def Tryd.lays246_ren : Go.Shelf.Ren := ⟨fun | 246 => 101 | 283 => 111 | 284 => 112 | 285 => 113 | 286 => 114 | 129 => 122 | 317 => 121 | 318 => 123 | 319 => 124 | 320 => 125 | 337 => 127 | 338 => 128 | n => n, fun | 2 => 2 | 3 => 3 | 9 => 9 | 4 => 4 | 171 => 144 | 0 => 0 | 53 => 145 | 37 => 52 | 5 => 5 | 173 => 148 | 212 => 158 | 51 => 159 | 20 => 20 | 213 => 160 | 46 => 162 | 232 => 166 | 233 => 167 | n => n, fun | 17 => 0 | 18 => 1 | 19 => 2 | n => n⟩
theorem Tryd.lays246 : Go.Proofs.Lays.n246 Tryd.prog Tryd.lays246_ren := {
  mixed := by kernel_rfl
  f129 := Tryd.func122.trans (congrArg some (by kernel_rfl))
  f246 := Tryd.func101.trans (congrArg some (by kernel_rfl))
  f283 := Tryd.func111.trans (congrArg some (by kernel_rfl))
  f284 := Tryd.func112.trans (congrArg some (by kernel_rfl))
  f285 := Tryd.func113.trans (congrArg some (by kernel_rfl))
  f286 := Tryd.func114.trans (congrArg some (by kernel_rfl))
  f317 := Tryd.func121.trans (congrArg some (by kernel_rfl))
  f318 := Tryd.func123.trans (congrArg some (by kernel_rfl))
  f319 := Tryd.func124.trans (congrArg some (by kernel_rfl))
  f320 := Tryd.func125.trans (congrArg some (by kernel_rfl))
  f337 := Tryd.func127.trans (congrArg some (by kernel_rfl))
  f338 := Tryd.func128.trans (congrArg some (by kernel_rfl))
  t0 := Tryd.underlying0
  a0 := Tryd.isAgg0
  z0 := Tryd.sizeOf0
  v0 := Tryd.zeroValue0
  t2 := Tryd.underlying2
  a2 := Tryd.isAgg2
  z2 := Tryd.sizeOf2
  v2 := Tryd.zeroValue2
  t3 := Tryd.underlying3
  a3 := Tryd.isAgg3
  z3 := Tryd.sizeOf3
  v3 := Tryd.zeroValue3
  t4 := Tryd.underlying4
  a4 := Tryd.isAgg4
  z4 := Tryd.sizeOf4
  v4 := Tryd.zeroValue4
  t5 := Tryd.underlying5
  a5 := Tryd.isAgg5
  z5 := Tryd.sizeOf5
  v5 := Tryd.zeroValue5
  t9 := Tryd.underlying9
  a9 := Tryd.isAgg9
  z9 := Tryd.sizeOf9
  v9 := Tryd.zeroValue9
  t20 := Tryd.underlying20
  a20 := Tryd.isAgg20
  z20 := Tryd.sizeOf20
  v20 := Tryd.zeroValue20
  t37 := Tryd.underlying52
  a37 := Tryd.isAgg52
  z37 := Tryd.sizeOf52
  v37 := Tryd.zeroValue52
  t46 := Tryd.underlying162
  a46 := Tryd.isAgg162
  z46 := Tryd.sizeOf162
  v46 := Tryd.zeroValue162
  t51 := Tryd.underlying159
  a51 := Tryd.isAgg159
  z51 := Tryd.sizeOf159
  v51 := Tryd.zeroValue159
  t53 := Tryd.underlying145
  a53 := Tryd.isAgg145
  z53 := Tryd.sizeOf145
  v53 := Tryd.zeroValue145
  t171 := Tryd.underlying144
  a171 := Tryd.isAgg144
  z171 := Tryd.sizeOf144
  v171 := Tryd.zeroValue144
  t173 := Tryd.underlying148
  a173 := Tryd.isAgg148
  z173 := Tryd.sizeOf148
  v173 := Tryd.zeroValue148
  t212 := Tryd.underlying158
  a212 := Tryd.isAgg158
  z212 := Tryd.sizeOf158
  v212 := Tryd.zeroValue158
  t213 := Tryd.underlying160
  a213 := Tryd.isAgg160
  z213 := Tryd.sizeOf160
  t232 := Tryd.underlying166
  a232 := Tryd.isAgg166
  z232 := Tryd.sizeOf166
  v232 := Tryd.zeroValue166
  t233 := Tryd.underlying167
  a233 := Tryd.isAgg167
  z233 := Tryd.sizeOf167
  v233 := Tryd.zeroValue167
  g17 := by kernel_rfl
  g18 := by kernel_rfl
  g19 := by kernel_rfl }
open Go.RowKit Go.Sort Go.Lib in
/-- THE ROAD WITHOUT THE TABLE: 0 <= i < 100: two constants are read, nothing is laid: no premise on the world, and the world is as it was. (LAID: no walk: one application.) -/
theorem Tryd.internal_strconv_FormatInt_10_small (i : Nat) (hi : i < 100) (w : World) :
    Calls Tryd.prog 101 #[.int .i64 i, .int .i64 10] w fun e w' => e = .returned (.string ⟨(Lib.decDigits i).toArray⟩) ∧ w' = w := Any.internal_strconv_FormatInt_10_small Tryd.lays246 i hi w
def Tryd.laysM243_ren : Go.Shelf.Ren := ⟨fun | 243 => 89 | 246 => 101 | 283 => 111 | 284 => 112 | 285 => 113 | 286 => 114 | 129 => 122 | 317 => 121 | 318 => 123 | 319 => 124 | 320 => 125 | 337 => 127 | 338 => 128 | n => n, fun | 3 => 3 | 9 => 9 | 2 => 2 | 4 => 4 | 171 => 144 | 0 => 0 | 53 => 145 | 37 => 52 | 5 => 5 | 173 => 148 | 212 => 158 | 51 => 159 | 20 => 20 | 213 => 160 | 46 => 162 | 232 => 166 | 233 => 167 | n => n, fun | 17 => 0 | 18 => 1 | 19 => 2 | n => n⟩
theorem Tryd.laysM243 : Go.Proofs.LaysM.n243 Tryd.prog Tryd.laysM243_ren := {
  mixed := by kernel_rfl
  f129 := Tryd.func122.trans (congrArg some (by kernel_rfl))
  f243 := Tryd.func89.trans (congrArg some (by kernel_rfl))
  f246 := Tryd.func101.trans (congrArg some (by kernel_rfl))
  f283 := Tryd.func111.trans (congrArg some (by kernel_rfl))
  f284 := Tryd.func112.trans (congrArg some (by kernel_rfl))
  f285 := Tryd.func113.trans (congrArg some (by kernel_rfl))
  f286 := Tryd.func114.trans (congrArg some (by kernel_rfl))
  f317 := Tryd.func121.trans (congrArg some (by kernel_rfl))
  f318 := Tryd.func123.trans (congrArg some (by kernel_rfl))
  f319 := Tryd.func124.trans (congrArg some (by kernel_rfl))
  f320 := Tryd.func125.trans (congrArg some (by kernel_rfl))
  f337 := Tryd.func127.trans (congrArg some (by kernel_rfl))
  f338 := Tryd.func128.trans (congrArg some (by kernel_rfl))
  t0 := Tryd.underlying0
  a0 := Tryd.isAgg0
  z0 := Tryd.sizeOf0
  v0 := Tryd.zeroValue0
  t2 := Tryd.underlying2
  a2 := Tryd.isAgg2
  z2 := Tryd.sizeOf2
  v2 := Tryd.zeroValue2
  t3 := Tryd.underlying3
  a3 := Tryd.isAgg3
  z3 := Tryd.sizeOf3
  v3 := Tryd.zeroValue3
  t4 := Tryd.underlying4
  a4 := Tryd.isAgg4
  z4 := Tryd.sizeOf4
  v4 := Tryd.zeroValue4
  t5 := Tryd.underlying5
  a5 := Tryd.isAgg5
  z5 := Tryd.sizeOf5
  v5 := Tryd.zeroValue5
  t9 := Tryd.underlying9
  a9 := Tryd.isAgg9
  z9 := Tryd.sizeOf9
  v9 := Tryd.zeroValue9
  t20 := Tryd.underlying20
  a20 := Tryd.isAgg20
  z20 := Tryd.sizeOf20
  v20 := Tryd.zeroValue20
  t37 := Tryd.underlying52
  a37 := Tryd.isAgg52
  z37 := Tryd.sizeOf52
  v37 := Tryd.zeroValue52
  t46 := Tryd.underlying162
  a46 := Tryd.isAgg162
  z46 := Tryd.sizeOf162
  v46 := Tryd.zeroValue162
  t51 := Tryd.underlying159
  a51 := Tryd.isAgg159
  z51 := Tryd.sizeOf159
  v51 := Tryd.zeroValue159
  t53 := Tryd.underlying145
  a53 := Tryd.isAgg145
  z53 := Tryd.sizeOf145
  v53 := Tryd.zeroValue145
  t171 := Tryd.underlying144
  a171 := Tryd.isAgg144
  z171 := Tryd.sizeOf144
  v171 := Tryd.zeroValue144
  t173 := Tryd.underlying148
  a173 := Tryd.isAgg148
  z173 := Tryd.sizeOf148
  v173 := Tryd.zeroValue148
  t212 := Tryd.underlying158
  a212 := Tryd.isAgg158
  z212 := Tryd.sizeOf158
  v212 := Tryd.zeroValue158
  t213 := Tryd.underlying160
  a213 := Tryd.isAgg160
  z213 := Tryd.sizeOf160
  t232 := Tryd.underlying166
  a232 := Tryd.isAgg166
  z232 := Tryd.sizeOf166
  v232 := Tryd.zeroValue166
  t233 := Tryd.underlying167
  a233 := Tryd.isAgg167
  z233 := Tryd.sizeOf167
  v233 := Tryd.zeroValue167
  g17 := by kernel_rfl
  g18 := by kernel_rfl
  g19 := by kernel_rfl
  i0 := by kernel_rfl
  i2 := by kernel_rfl
  i3 := by kernel_rfl
  i4 := by kernel_rfl
  i5 := by kernel_rfl
  i9 := by kernel_rfl
  i20 := by kernel_rfl
  i37 := by kernel_rfl
  i46 := by kernel_rfl
  i51 := by kernel_rfl
  i53 := by kernel_rfl
  i171 := by kernel_rfl
  i173 := by kernel_rfl
  i212 := by kernel_rfl
  i232 := by kernel_rfl
  i233 := by kernel_rfl
  m17 := by kernel_rfl
  m18 := by kernel_rfl
  m19 := by kernel_rfl }
open Go.RowKit Go.Sort Go.Lib in
/-- internal/strconv.Itoa: "Itoa is equivalent to FormatInt(int64(i), 10).": i's decimal numeral, for every int. (LAID: no walk: one application.) -/
theorem Tryd.internal_strconv_Itoa (n : Int) (h0 : -9223372036854775808 ≤ n) (h1 : n ≤ 9223372036854775807) (w : World) (htab : Lib.TabIs Tryd.prog w "internal/strconv.uint64pow10" .u64 Lib.pow10Tab) :
    Calls Tryd.prog 89 #[.int .i64 n] w fun e w' => e = .returned (.string ⟨(Lib.itoa n).toArray⟩) ∧ ∃ k os, w' = grow (w.drewN k) os := Any.internal_strconv_Itoa Tryd.laysM243 n h0 h1 w htab
def Tryd.lays243_ren : Go.Shelf.Ren := ⟨fun | 243 => 89 | 246 => 101 | 283 => 111 | 284 => 112 | 285 => 113 | 286 => 114 | 129 => 122 | 317 => 121 | 318 => 123 | 319 => 124 | 320 => 125 | 337 => 127 | 338 => 128 | n => n, fun | 3 => 3 | 9 => 9 | 2 => 2 | 4 => 4 | 171 => 144 | 0 => 0 | 53 => 145 | 37 => 52 | 5 => 5 | 173 => 148 | 212 => 158 | 51 => 159 | 20 => 20 | 213 => 160 | 46 => 162 | 232 => 166 | 233 => 167 | n => n, fun | 17 => 0 | 18 => 1 | 19 => 2 | n => n⟩
theorem Tryd.lays243 : Go.Proofs.Lays.n243 Tryd.prog Tryd.lays243_ren := {
  mixed := by kernel_rfl
  f129 := Tryd.func122.trans (congrArg some (by kernel_rfl))
  f243 := Tryd.func89.trans (congrArg some (by kernel_rfl))
  f246 := Tryd.func101.trans (congrArg some (by kernel_rfl))
  f283 := Tryd.func111.trans (congrArg some (by kernel_rfl))
  f284 := Tryd.func112.trans (congrArg some (by kernel_rfl))
  f285 := Tryd.func113.trans (congrArg some (by kernel_rfl))
  f286 := Tryd.func114.trans (congrArg some (by kernel_rfl))
  f317 := Tryd.func121.trans (congrArg some (by kernel_rfl))
  f318 := Tryd.func123.trans (congrArg some (by kernel_rfl))
  f319 := Tryd.func124.trans (congrArg some (by kernel_rfl))
  f320 := Tryd.func125.trans (congrArg some (by kernel_rfl))
  f337 := Tryd.func127.trans (congrArg some (by kernel_rfl))
  f338 := Tryd.func128.trans (congrArg some (by kernel_rfl))
  t0 := Tryd.underlying0
  a0 := Tryd.isAgg0
  z0 := Tryd.sizeOf0
  v0 := Tryd.zeroValue0
  t2 := Tryd.underlying2
  a2 := Tryd.isAgg2
  z2 := Tryd.sizeOf2
  v2 := Tryd.zeroValue2
  t3 := Tryd.underlying3
  a3 := Tryd.isAgg3
  z3 := Tryd.sizeOf3
  v3 := Tryd.zeroValue3
  t4 := Tryd.underlying4
  a4 := Tryd.isAgg4
  z4 := Tryd.sizeOf4
  v4 := Tryd.zeroValue4
  t5 := Tryd.underlying5
  a5 := Tryd.isAgg5
  z5 := Tryd.sizeOf5
  v5 := Tryd.zeroValue5
  t9 := Tryd.underlying9
  a9 := Tryd.isAgg9
  z9 := Tryd.sizeOf9
  v9 := Tryd.zeroValue9
  t20 := Tryd.underlying20
  a20 := Tryd.isAgg20
  z20 := Tryd.sizeOf20
  v20 := Tryd.zeroValue20
  t37 := Tryd.underlying52
  a37 := Tryd.isAgg52
  z37 := Tryd.sizeOf52
  v37 := Tryd.zeroValue52
  t46 := Tryd.underlying162
  a46 := Tryd.isAgg162
  z46 := Tryd.sizeOf162
  v46 := Tryd.zeroValue162
  t51 := Tryd.underlying159
  a51 := Tryd.isAgg159
  z51 := Tryd.sizeOf159
  v51 := Tryd.zeroValue159
  t53 := Tryd.underlying145
  a53 := Tryd.isAgg145
  z53 := Tryd.sizeOf145
  v53 := Tryd.zeroValue145
  t171 := Tryd.underlying144
  a171 := Tryd.isAgg144
  z171 := Tryd.sizeOf144
  v171 := Tryd.zeroValue144
  t173 := Tryd.underlying148
  a173 := Tryd.isAgg148
  z173 := Tryd.sizeOf148
  v173 := Tryd.zeroValue148
  t212 := Tryd.underlying158
  a212 := Tryd.isAgg158
  z212 := Tryd.sizeOf158
  v212 := Tryd.zeroValue158
  t213 := Tryd.underlying160
  a213 := Tryd.isAgg160
  z213 := Tryd.sizeOf160
  t232 := Tryd.underlying166
  a232 := Tryd.isAgg166
  z232 := Tryd.sizeOf166
  v232 := Tryd.zeroValue166
  t233 := Tryd.underlying167
  a233 := Tryd.isAgg167
  z233 := Tryd.sizeOf167
  v233 := Tryd.zeroValue167
  g17 := by kernel_rfl
  g18 := by kernel_rfl
  g19 := by kernel_rfl }
open Go.RowKit Go.Sort Go.Lib in
/-- THE ROAD WITHOUT THE TABLE: 0 <= i < 100. (LAID: no walk: one application.) -/
theorem Tryd.internal_strconv_Itoa_small (i : Nat) (hi : i < 100) (w : World) :
    Calls Tryd.prog 89 #[.int .i64 i] w fun e w' => e = .returned (.string ⟨(Lib.decDigits i).toArray⟩) ∧ w' = w := Any.internal_strconv_Itoa_small Tryd.lays243 i hi w
def Tryd.laysM171_ren : Go.Shelf.Ren := ⟨fun | 171 => 62 | 243 => 89 | 246 => 101 | 283 => 111 | 284 => 112 | 285 => 113 | 286 => 114 | 129 => 122 | 317 => 121 | 318 => 123 | 319 => 124 | 320 => 125 | 337 => 127 | 338 => 128 | n => n, fun | 3 => 3 | 9 => 9 | 2 => 2 | 4 => 4 | 171 => 144 | 0 => 0 | 53 => 145 | 37 => 52 | 5 => 5 | 173 => 148 | 212 => 158 | 51 => 159 | 20 => 20 | 213 => 160 | 46 => 162 | 232 => 166 | 233 => 167 | n => n, fun | 17 => 0 | 18 => 1 | 19 => 2 | n => n⟩
theorem Tryd.laysM171 : Go.Proofs.LaysM.n171 Tryd.prog Tryd.laysM171_ren := {
  mixed := by kernel_rfl
  f129 := Tryd.func122.trans (congrArg some (by kernel_rfl))
  f171 := Tryd.func62.trans (congrArg some (by kernel_rfl))
  f243 := Tryd.func89.trans (congrArg some (by kernel_rfl))
  f246 := Tryd.func101.trans (congrArg some (by kernel_rfl))
  f283 := Tryd.func111.trans (congrArg some (by kernel_rfl))
  f284 := Tryd.func112.trans (congrArg some (by kernel_rfl))
  f285 := Tryd.func113.trans (congrArg some (by kernel_rfl))
  f286 := Tryd.func114.trans (congrArg some (by kernel_rfl))
  f317 := Tryd.func121.trans (congrArg some (by kernel_rfl))
  f318 := Tryd.func123.trans (congrArg some (by kernel_rfl))
  f319 := Tryd.func124.trans (congrArg some (by kernel_rfl))
  f320 := Tryd.func125.trans (congrArg some (by kernel_rfl))
  f337 := Tryd.func127.trans (congrArg some (by kernel_rfl))
  f338 := Tryd.func128.trans (congrArg some (by kernel_rfl))
  t0 := Tryd.underlying0
  a0 := Tryd.isAgg0
  z0 := Tryd.sizeOf0
  v0 := Tryd.zeroValue0
  t2 := Tryd.underlying2
  a2 := Tryd.isAgg2
  z2 := Tryd.sizeOf2
  v2 := Tryd.zeroValue2
  t3 := Tryd.underlying3
  a3 := Tryd.isAgg3
  z3 := Tryd.sizeOf3
  v3 := Tryd.zeroValue3
  t4 := Tryd.underlying4
  a4 := Tryd.isAgg4
  z4 := Tryd.sizeOf4
  v4 := Tryd.zeroValue4
  t5 := Tryd.underlying5
  a5 := Tryd.isAgg5
  z5 := Tryd.sizeOf5
  v5 := Tryd.zeroValue5
  t9 := Tryd.underlying9
  a9 := Tryd.isAgg9
  z9 := Tryd.sizeOf9
  v9 := Tryd.zeroValue9
  t20 := Tryd.underlying20
  a20 := Tryd.isAgg20
  z20 := Tryd.sizeOf20
  v20 := Tryd.zeroValue20
  t37 := Tryd.underlying52
  a37 := Tryd.isAgg52
  z37 := Tryd.sizeOf52
  v37 := Tryd.zeroValue52
  t46 := Tryd.underlying162
  a46 := Tryd.isAgg162
  z46 := Tryd.sizeOf162
  v46 := Tryd.zeroValue162
  t51 := Tryd.underlying159
  a51 := Tryd.isAgg159
  z51 := Tryd.sizeOf159
  v51 := Tryd.zeroValue159
  t53 := Tryd.underlying145
  a53 := Tryd.isAgg145
  z53 := Tryd.sizeOf145
  v53 := Tryd.zeroValue145
  t171 := Tryd.underlying144
  a171 := Tryd.isAgg144
  z171 := Tryd.sizeOf144
  v171 := Tryd.zeroValue144
  t173 := Tryd.underlying148
  a173 := Tryd.isAgg148
  z173 := Tryd.sizeOf148
  v173 := Tryd.zeroValue148
  t212 := Tryd.underlying158
  a212 := Tryd.isAgg158
  z212 := Tryd.sizeOf158
  v212 := Tryd.zeroValue158
  t213 := Tryd.underlying160
  a213 := Tryd.isAgg160
  z213 := Tryd.sizeOf160
  t232 := Tryd.underlying166
  a232 := Tryd.isAgg166
  z232 := Tryd.sizeOf166
  v232 := Tryd.zeroValue166
  t233 := Tryd.underlying167
  a233 := Tryd.isAgg167
  z233 := Tryd.sizeOf167
  v233 := Tryd.zeroValue167
  g17 := by kernel_rfl
  g18 := by kernel_rfl
  g19 := by kernel_rfl
  i0 := by kernel_rfl
  i2 := by kernel_rfl
  i3 := by kernel_rfl
  i4 := by kernel_rfl
  i5 := by kernel_rfl
  i9 := by kernel_rfl
  i20 := by kernel_rfl
  i37 := by kernel_rfl
  i46 := by kernel_rfl
  i51 := by kernel_rfl
  i53 := by kernel_rfl
  i171 := by kernel_rfl
  i173 := by kernel_rfl
  i212 := by kernel_rfl
  i232 := by kernel_rfl
  i233 := by kernel_rfl
  m17 := by kernel_rfl
  m18 := by kernel_rfl
  m19 := by kernel_rfl }
open Go.RowKit Go.Sort Go.Lib in
/-- strconv.Itoa: "Itoa is equivalent to FormatInt(int64(i), 10).": i's DECIMAL NUMERAL ('Lib.itoa': a '-' where i is negative, then the digits), FOR EVERY int. The world behind the call: the world before it, new blocks behind the heap (the library's 'var a [24]byte'), draws. (LAID: no walk: one application.) -/
theorem Tryd.strconv_Itoa (n : Int) (h0 : -9223372036854775808 ≤ n) (h1 : n ≤ 9223372036854775807) (w : World) (htab : Lib.TabIs Tryd.prog w "internal/strconv.uint64pow10" .u64 Lib.pow10Tab) :
    Calls Tryd.prog 62 #[.int .i64 n] w fun e w' => e = .returned (.string ⟨(Lib.itoa n).toArray⟩) ∧ ∃ k os, w' = grow (w.drewN k) os := Any.strconv_Itoa Tryd.laysM171 n h0 h1 w htab
def Tryd.lays171_ren : Go.Shelf.Ren := ⟨fun | 171 => 62 | 243 => 89 | 246 => 101 | 283 => 111 | 284 => 112 | 285 => 113 | 286 => 114 | 129 => 122 | 317 => 121 | 318 => 123 | 319 => 124 | 320 => 125 | 337 => 127 | 338 => 128 | n => n, fun | 3 => 3 | 9 => 9 | 2 => 2 | 4 => 4 | 171 => 144 | 0 => 0 | 53 => 145 | 37 => 52 | 5 => 5 | 173 => 148 | 212 => 158 | 51 => 159 | 20 => 20 | 213 => 160 | 46 => 162 | 232 => 166 | 233 => 167 | n => n, fun | 17 => 0 | 18 => 1 | 19 => 2 | n => n⟩
theorem Tryd.lays171 : Go.Proofs.Lays.n171 Tryd.prog Tryd.lays171_ren := {
  mixed := by kernel_rfl
  f129 := Tryd.func122.trans (congrArg some (by kernel_rfl))
  f171 := Tryd.func62.trans (congrArg some (by kernel_rfl))
  f243 := Tryd.func89.trans (congrArg some (by kernel_rfl))
  f246 := Tryd.func101.trans (congrArg some (by kernel_rfl))
  f283 := Tryd.func111.trans (congrArg some (by kernel_rfl))
  f284 := Tryd.func112.trans (congrArg some (by kernel_rfl))
  f285 := Tryd.func113.trans (congrArg some (by kernel_rfl))
  f286 := Tryd.func114.trans (congrArg some (by kernel_rfl))
  f317 := Tryd.func121.trans (congrArg some (by kernel_rfl))
  f318 := Tryd.func123.trans (congrArg some (by kernel_rfl))
  f319 := Tryd.func124.trans (congrArg some (by kernel_rfl))
  f320 := Tryd.func125.trans (congrArg some (by kernel_rfl))
  f337 := Tryd.func127.trans (congrArg some (by kernel_rfl))
  f338 := Tryd.func128.trans (congrArg some (by kernel_rfl))
  t0 := Tryd.underlying0
  a0 := Tryd.isAgg0
  z0 := Tryd.sizeOf0
  v0 := Tryd.zeroValue0
  t2 := Tryd.underlying2
  a2 := Tryd.isAgg2
  z2 := Tryd.sizeOf2
  v2 := Tryd.zeroValue2
  t3 := Tryd.underlying3
  a3 := Tryd.isAgg3
  z3 := Tryd.sizeOf3
  v3 := Tryd.zeroValue3
  t4 := Tryd.underlying4
  a4 := Tryd.isAgg4
  z4 := Tryd.sizeOf4
  v4 := Tryd.zeroValue4
  t5 := Tryd.underlying5
  a5 := Tryd.isAgg5
  z5 := Tryd.sizeOf5
  v5 := Tryd.zeroValue5
  t9 := Tryd.underlying9
  a9 := Tryd.isAgg9
  z9 := Tryd.sizeOf9
  v9 := Tryd.zeroValue9
  t20 := Tryd.underlying20
  a20 := Tryd.isAgg20
  z20 := Tryd.sizeOf20
  v20 := Tryd.zeroValue20
  t37 := Tryd.underlying52
  a37 := Tryd.isAgg52
  z37 := Tryd.sizeOf52
  v37 := Tryd.zeroValue52
  t46 := Tryd.underlying162
  a46 := Tryd.isAgg162
  z46 := Tryd.sizeOf162
  v46 := Tryd.zeroValue162
  t51 := Tryd.underlying159
  a51 := Tryd.isAgg159
  z51 := Tryd.sizeOf159
  v51 := Tryd.zeroValue159
  t53 := Tryd.underlying145
  a53 := Tryd.isAgg145
  z53 := Tryd.sizeOf145
  v53 := Tryd.zeroValue145
  t171 := Tryd.underlying144
  a171 := Tryd.isAgg144
  z171 := Tryd.sizeOf144
  v171 := Tryd.zeroValue144
  t173 := Tryd.underlying148
  a173 := Tryd.isAgg148
  z173 := Tryd.sizeOf148
  v173 := Tryd.zeroValue148
  t212 := Tryd.underlying158
  a212 := Tryd.isAgg158
  z212 := Tryd.sizeOf158
  v212 := Tryd.zeroValue158
  t213 := Tryd.underlying160
  a213 := Tryd.isAgg160
  z213 := Tryd.sizeOf160
  t232 := Tryd.underlying166
  a232 := Tryd.isAgg166
  z232 := Tryd.sizeOf166
  v232 := Tryd.zeroValue166
  t233 := Tryd.underlying167
  a233 := Tryd.isAgg167
  z233 := Tryd.sizeOf167
  v233 := Tryd.zeroValue167
  g17 := by kernel_rfl
  g18 := by kernel_rfl
  g19 := by kernel_rfl }
open Go.RowKit Go.Sort Go.Lib in
/-- THE ROAD WITHOUT THE TABLE: 0 <= i < 100: NO PREMISE ON THE WORLD, AND THE WORLD IS AS IT WAS: a row that keeps its argument in that range need list no table ('laid = []'). (LAID: no walk: one application.) -/
theorem Tryd.strconv_Itoa_small (i : Nat) (hi : i < 100) (w : World) :
    Calls Tryd.prog 62 #[.int .i64 i] w fun e w' => e = .returned (.string ⟨(Lib.decDigits i).toArray⟩) ∧ w' = w := Any.strconv_Itoa_small Tryd.lays171 i hi w
end Go.Proofs

/- Decimals by either hand; how a text is cut into blocks. -/
set_option linter.unusedVariables false
set_option linter.unusedSimpArgs false
namespace Go.Proofs.YtkndffhcncmbjaaDoor
open Go Go.Av Go.RowKit

theorem nums_dig (n : Nat) : strOfNums [((48 + n % 10 : Nat) : Int)] = ofL [dig n] := by
  have h := bl_byte (48 + n % 10)
  rw [Nat.mod_eq_of_lt (by omega)] at h
  exact bl_inj (by rw [h, bl_ofL]; rfl)
theorem pUn_neg {n : Int} {K : Value → Prop} (h : -9223372036854775807 ≤ n ∧ n ≤ 9223372036854775807) : pUn .neg (.int .i64 n) K ↔ K (.int .i64 (-n)) := by
  have e : aun .neg (.int .i64 n) = some (.int .i64 (-n)) := by
    show some (Value.int .i64 (IntKind.i64.wrap (0 - n))) = _
    rw [IntWalk.i64_in (0 - n) (by omega), Int.zero_sub]
  exact ⟨fun ⟨_, h', hK⟩ => by rw [e] at h'; cases h'; exact hK, fun hK => ⟨_, e, hK⟩⟩
theorem dec_min : decZ (-9223372036854775808) = minText := by
  have : decL 9223372036854775808 = [57, 50, 50, 51, 51, 55, 50, 48, 51, 54, 56, 53, 52, 55, 55, 53, 56, 48, 56] := by
    simp [decL_big, decL_small, dig]
  unfold decZ
  rw [if_pos (by omega)]
  have e : (-(-9223372036854775808 : Int)).toNat = 9223372036854775808 := rfl
  rw [e, decN, this]
  rfl
theorem decN_big {k : Nat} (h : ¬ k < 10) : decN k = decN (k / 10) ++ ofL [dig k] := by
  rw [decN, decL_big h, ← ofL_append]; rfl

section
variable {w0 : World} {σ : Vw}

theorem dec_row {σ' : Vw} {k : Nat} {K : Vw → Value → Prop} (hK : ∀ s, Keeps σ' s → K s (.string (ofL [dig k]))) : pNew w0 5 [.int .u8 ((48 + k % 10 : Nat) : Int)] σ' (fun n s => pStr w0 (.slice (some (Addr.mk n 0 none)) 1 1) s (fun v => K s v)) := by
  intro b h1 h2
  refine pStr1 (by rw [get_row h1 put_at]; rfl) ?_
  rw [nums_dig]
  exact hK _ (Keeps.put h2)

theorem spec_l22Dec_nat : ∀ (k : Nat), k ≤ 9223372036854775807 → ∀ {σ : Vw} {R : Value → Vw → Prop}, (∀ σ', Keeps σ σ' → R (.string (decN k)) σ') → AC Tryd.prog w0 n_spec_l22Dec [.int .i64 (k : Nat)] σ R := by
  intro k
  induction k using Nat.strongRecOn with
  | _ k ih =>
    intro hk σ R hR
    refine ac_spec_l22Dec ?_
    unfold vc_spec_l22Dec
    rw [pBin_lt, pIf_d]
    refine ⟨fun h => by omega, fun _ => ?_⟩
    rw [pBin_lt, pIf_d]
    refine ⟨fun h => by omega, fun _ => ?_⟩
    rw [pBin_lt, pIf_d]
    refine ⟨fun h10 => ?_, fun h10 => ?_⟩
    · rw [pBin_add (by omega), pConv_u8 (by omega), pVal1 rfl, show (48 : Int) + (k : Nat) = ((48 + k % 10 : Nat) : Int) by omega]
      refine dec_row fun s k1 => ?_
      have := hR s k1
      rw [decN, decL_small (by omega)] at this
      exact this
    · have hb : ¬ k < 10 := by omega
      have hd := (decN_size (k / 10)).2
      rw [decN_big hb] at hR
      have hcat : ∀ K : Value → Prop, pBin Tryd.prog 9 .add (.string (decN (k / 10))) (.string (ofL [dig k])) K ↔ K (.string (decN (k / 10) ++ ofL [dig k])) := fun K => pBin_cat (by rw [size_ofL]; simp only [List.length_singleton]; omega)
      rw [pBin_quo (by omega), pBin_rem (by omega), pBin_add (by omega), pConv_u8 (by omega), show (48 : Int) + (k : Nat) % 10 = ((48 + k % 10 : Nat) : Int) by omega, show ((k : Nat) : Int) / 10 = ((k / 10 : Nat) : Int) by omega]
      refine ⟨ih (k / 10) (by omega) (by omega) fun s k1 => ?_, ?_⟩
      · rw [pVal1 rfl]
        refine dec_row fun s2 k2 => ?_
        rw [hcat]
        exact hR s2 (k1.trans k2)
      · rw [pVal1 rfl]
        refine dec_row fun s2 k2 => ?_
        refine ih (k / 10) (by omega) (by omega) fun s k1 => ⟨k1.ext, ?_⟩
        rw [hcat]
        exact hR s (k2.trans k1)

theorem spec_l22Dec {n : Int} {R : Value → Vw → Prop} (hn : -9223372036854775808 ≤ n ∧ n ≤ 9223372036854775807) (hR : ∀ σ', Keeps σ σ' → R (.string (decZ n)) σ') : AC Tryd.prog w0 n_spec_l22Dec [.int .i64 n] σ R := by
  by_cases h0 : 0 ≤ n
  · obtain ⟨k, rfl⟩ : ∃ k : Nat, n = k := ⟨n.toNat, by omega⟩
    rw [decZ_nat] at hR
    exact spec_l22Dec_nat k (by omega) hR
  refine ac_spec_l22Dec ?_
  unfold vc_spec_l22Dec
  rw [pBin_lt, pIf_d]
  refine ⟨fun h1 => ?_, fun h1 => ?_⟩
  · have : n = -9223372036854775808 := by omega
    subst this
    have := hR σ (Keeps.refl σ)
    rw [dec_min] at this
    exact this
  rw [pBin_lt, pIf_d]
  refine ⟨fun _ => ?_, fun h => by omega⟩
  rw [pUn_neg (by omega)]
  obtain ⟨k, hk⟩ : ∃ k : Nat, -n = k := ⟨(-n).toNat, by omega⟩
  rw [hk]
  have e : decZ n = ⟨#[45]⟩ ++ decN k := by
    unfold decZ
    rw [if_pos (by omega), hk, Int.toNat_natCast]
  rw [e] at hR
  refine spec_l22Dec_nat k (by omega) fun s k1 => ?_
  have hd := (decN_size k).2
  rw [pBin_cat (by show 1 + _ ≤ _; omega)]
  exact hR s k1

/-- The table that strconv reads stands as it is laid. -/
def Tab (w0 : World) : Prop := ∀ w, Below w0.heap.size w0 w → Lib.TabIs Tryd.prog w "internal/strconv.uint64pow10" .u64 Lib.pow10Tab
theorem itoa_decL : ∀ u : Nat, Lib.decDigits u = decL u := by
  intro u
  induction u using Nat.strongRecOn with
  | _ u ih =>
    rw [Lib.decDigits, decL]
    split
    · rename_i h
      congr 2
      omega
    · rw [ih (u / 10) (by omega)]; rfl
theorem itoa_dec (n : Int) : (⟨(Lib.itoa n).toArray⟩ : ByteArray) = decZ n := by
  show ofL (Lib.itoa n) = _
  unfold Lib.itoa decZ
  split
  · rw [itoa_decL, show (-n).toNat = n.natAbs by omega, decN]
    show ofL ([45] ++ decL n.natAbs) = ofL [45] ++ _
    rw [ofL_append]
  · rw [itoa_decL]; rfl
theorem strconv_Itoa (tab : Tab w0) {n : Int} {R : Value → Vw → Prop} (hn : -9223372036854775808 ≤ n ∧ n ≤ 9223372036854775807) (hR : R (.string (decZ n)) σ) : AC Tryd.prog w0 n_strconv_Itoa [.int .i64 n] σ R := by
  refine AC.of_calls is_strconv_Itoa fun w hw => ?_
  refine (Tryd.strconv_Itoa n hn.1 hn.2 w (tab w hw.bel)).mono ?_
  rintro e w' ⟨rfl, k, os, rfl⟩
  exact ⟨_, rfl, by rw [itoa_dec]; exact hR, Lib.below_grow _ _ (Nat.le_refl _) _ _⟩

/-! ### Blocks -/
def manyN (s : ByteArray) (size : Nat) : Nat := (s.size + size - 1) / size
def areaI (gen : Int) : Int := 14 + gen % 2 * 90
def pieceB (s : ByteArray) (i size : Nat) : ByteArray := s.extract (i * size) (min ((i + 1) * size) s.size)
def headB (gen : Int) (n : Nat) : ByteArray := ⟨#[67, 32]⟩ ++ decZ gen ++ ⟨#[32]⟩ ++ decN n

theorem many_le (s : ByteArray) {size : Nat} (h : 0 < size) : manyN s size ≤ s.size := by
  unfold manyN
  rcases Nat.eq_zero_or_pos s.size with e | e
  · rw [e, Nat.zero_add, Nat.div_eq_of_lt (by omega)]; exact Nat.le_refl _
  · refine Nat.div_le_of_le_mul ?_
    have : s.size * 1 ≤ size * s.size := by rw [Nat.mul_comm size]; exact Nat.mul_le_mul_left _ h
    have h2 : size * s.size ≥ s.size + size - 1 := by
      obtain ⟨a, rfl⟩ : ∃ a, size = a + 1 := ⟨size - 1, by omega⟩
      obtain ⟨b, hb⟩ : ∃ b, s.size = b + 1 := ⟨s.size - 1, by omega⟩
      rw [hb]
      have : (a + 1) * (b + 1) = a * b + a + b + 1 := by rw [Nat.add_mul, Nat.mul_add]; omega
      rw [this]; omega
    exact h2
theorem lt_many {s : ByteArray} {size i : Nat} (h : 0 < size) : i < manyN s size ↔ i * size < s.size := by
  unfold manyN
  constructor
  · intro hi
    have : (i + 1) * size ≤ s.size + size - 1 := (Nat.le_div_iff_mul_le h).1 hi
    rw [Nat.add_mul, Nat.one_mul] at this
    omega
  · intro hi
    refine (Nat.le_div_iff_mul_le h).2 ?_
    show (i + 1) * size ≤ _
    rw [Nat.add_mul, Nat.one_mul]; omega
theorem piece_size (s : ByteArray) (i size : Nat) : (pieceB s i size).size ≤ size := by
  unfold pieceB
  rw [ByteArray.size_extract]
  have : (i + 1) * size = i * size + size := by rw [Nat.add_mul, Nat.one_mul]
  omega

theorem spec_l22Many {s : ByteArray} {size : Nat} {R : Value → Vw → Prop} (hs : s.size ≤ 1000000000000) (h : 0 < size ∧ size ≤ 1000) (hR : R (.int .i64 (manyN s size : Nat)) σ) : AC Tryd.prog w0 n_spec_l22Many [.string s, .int .i64 (size : Nat)] σ R := by
  refine ac_spec_l22Many ?_
  unfold vc_spec_l22Many
  rw [pLenS_s, pBin_add (by omega), pBin_sub (by omega), pBin_quo (by omega)]
  have : ((s.size : Int) + (size : Nat) - 1) / (size : Nat) = (manyN s size : Nat) := by
    unfold manyN
    rw [Int.natCast_ediv]
    congr 1; omega
  rw [this]; exact hR
theorem impl_pieces' {s : ByteArray} {size : Nat} {R : Value → Vw → Prop} (hs : s.size ≤ 1000000000000) (h : 0 < size ∧ size ≤ 1000) (hR : R (.int .i64 (manyN s size : Nat)) σ) : AC Tryd.prog w0 n_impl_pieces [.int .i64 s.size, .int .i64 (size : Nat)] σ R := by
  refine ac_impl_pieces ?_
  unfold vc_impl_pieces
  rw [pBin_add (by omega), pBin_sub (by omega), pBin_quo (by omega)]
  have : ((s.size : Int) + (size : Nat) - 1) / (size : Nat) = (manyN s size : Nat) := by
    unfold manyN
    rw [Int.natCast_ediv]
    congr 1; omega
  rw [this]; exact hR
theorem spec_l22Area {gen : Int} {R : Value → Vw → Prop} (hg : 0 ≤ gen ∧ gen ≤ 1000000) (hR : R (.int .i64 (areaI gen)) σ) : AC Tryd.prog w0 n_spec_l22Area [.int .i64 gen] σ R := by
  refine ac_spec_l22Area ?_
  unfold vc_spec_l22Area
  rw [pBin_rem (by omega), pBin_mul (by omega), pBin_add (by omega)]
  exact hR
theorem impl_areaFirst {gen : Int} {R : Value → Vw → Prop} (hg : 0 ≤ gen ∧ gen ≤ 1000000) (hR : R (.int .i64 (areaI gen)) σ) : AC Tryd.prog w0 n_impl_areaFirst [.int .i64 gen] σ R := by
  refine ac_impl_areaFirst ?_
  unfold vc_impl_areaFirst
  rw [pBin_rem (by omega), pBin_mul (by omega), pBin_add (by omega)]
  exact hR
theorem mul_le {i : Nat} {size s : Nat} (h : i * size < s) (hs : s ≤ 1000000000000) (h0 : 0 < size) : i ≤ 1000000000000 := by
  have : i * 1 ≤ i * size := Nat.mul_le_mul_left _ h0
  omega
theorem spec_l22Piece {s : ByteArray} {i size : Nat} {R : Value → Vw → Prop} (hs : s.size ≤ 1000000000000) (h : 0 < size ∧ size ≤ 1000) (hi : i * size < s.size) (hR : R (.string (pieceB s i size)) σ) : AC Tryd.prog w0 n_spec_l22Piece [.string s, .int .i64 (i : Nat), .int .i64 (size : Nat)] σ R := by
  refine ac_spec_l22Piece ?_
  unfold vc_spec_l22Piece
  have e : ((i : Nat) : Int) * (size : Nat) = ((i * size : Nat) : Int) := by rw [Int.natCast_mul]
  have e2 : (i + 1) * size = i * size + size := by rw [Nat.add_mul, Nat.one_mul]
  rw [pBin_mul (by rw [e]; omega), e, pLenS_s, pBin_ge, pIf_d]
  refine ⟨fun h => by omega, fun _ => ?_⟩
  rw [pBin_add (by omega), pLenS_s, pBin_gt, pIf_d]
  refine ⟨fun hgt => ?_, fun hgt => ?_⟩
  · refine pSliceStr_s (l := ((i * size : Nat) : Int)) (h := s.size) rfl rfl (by omega) ?_
    have : pieceB s i size = s.extract (i * size) s.size := by unfold pieceB; rw [e2, Nat.min_eq_right (by omega)]
    rw [this] at hR
    rw [Int.toNat_natCast, Int.toNat_natCast]
    exact hR
  · rw [pBin_add (by omega)]
    refine pSliceStr_s (l := ((i * size : Nat) : Int)) (h := ((i * size : Nat) : Int) + (size : Nat)) rfl rfl (by omega) ?_
    have : pieceB s i size = s.extract (i * size) (i * size + size) := by unfold pieceB; rw [e2, Nat.min_eq_left (by omega)]
    rw [this] at hR
    have e3 : (((i * size : Nat) : Int) + (size : Nat)).toNat = i * size + size := by omega
    rw [e3, Int.toNat_natCast]
    exact hR
end
end Go.Proofs.YtkndffhcncmbjaaDoor

/- The law 'DiskWrite'; how disks and writes are opened. -/
set_option linter.unusedVariables false
set_option linter.unusedSimpArgs false
namespace Go.Proofs.YtkndffhcncmbjaaDoor
open Go Go.Av Go.RowKit

def RDisk (rd : Addr → Option Value) (es : List Value) (xs : List ByteArray) : Prop := ∃ v, es = [v] ∧ RSl 1 RS rd v xs

theorem cut1 {es : List Value} {a : Value} (hl : es.length = 1) (h0 : (es.drop 0).take 1 = [a]) : es = [a] := by
  match es, hl with
  | [p], _ => simp at h0; subst h0; rfl
theorem cut2 {es : List Value} {a b : Value} (hl : es.length = 2) (h0 : (es.drop 0).take 1 = [a]) (h1 : (es.drop 1).take 1 = [b]) : es = [a, b] := by
  match es, hl with
  | [p, q], _ => simp at h0 h1; subst h0 h1; rfl

section
variable {w0 : World} {σ : Vw}

theorem writeD_len {bs : List ByteArray} {xs : List Rw} {cut : Int} : (writeD bs xs cut).length ≤ bs.length := by
  unfold writeD; split
  · rw [runD_len]; omega
  · simp

theorem sum_const {α : Type} (c : Nat) (xs : List α) : sumBy (fun _ => c) xs = c * xs.length := by
  induction xs with
  | nil => rfl
  | cons a r ih => simp only [sumBy, ih, List.length_cons, Nat.mul_add, Nat.mul_one]; omega
/-- Lists that lie apart. -/
theorem apart_new {F G : List Nat} {σ : Vw} (hF : ∀ b, b ∈ F → σ b ≠ none) (hG : ∀ b, b ∈ G → σ b = none) : (∀ b, b ∈ F → b ∉ G) ∧ (∀ b, b ∈ G → b ∉ F) :=
  ⟨fun b h h' => hF b h (hG b h'), fun b h h' => hF b h' (hG b h)⟩

end
end Go.Proofs.YtkndffhcncmbjaaDoor

/- Rows of our own: cells stored, an element taken out in place, the copy of two lists in any order. -/
set_option linter.unusedVariables false
set_option linter.unusedSimpArgs false
namespace Go.Av
open Go Go.RowKit

section
variable {P : Program} {w0 : World} {σ σ' : Vw} {α γ : Type}

theorem cell_store {b o : Nat} {r : Row} {A c C new : List Value} {K : Vw → Prop} (hr : σ b = some r) (hc : r.cells = A ++ (c ++ C)) (hA : A.length = o) (hl : c.length = new.length)
    (hK : K (σ.put b { r with cells := A ++ (new ++ C) })) : pStore (.pointer (some ⟨b, o, none⟩)) new σ K := by
  refine ⟨b, o, r, rfl, hr, by rw [hc]; simp only [List.length_append]; omega, ?_⟩
  rw [hc, ← hA, setAt_mid A c new C hl]
  exact hK

/-- An element of a list of our own is written, all its cells. -/
theorem OSl.store {n : Nat} {Rel : (Addr → Option Value) → List Value → α → Prop} {O : Vw → List Nat → List Value → α → Prop} (ok : OOk w0 n Rel O) {F : List Nat} {v : Value} {xs : List α} (h : OSl w0 n O σ F v xs) {j : Nat} {x y : α} {new : List Value} (hj : xs[j]? = some x)
    (hO : ∀ f c σ', O σ f c x → O σ' f new y) (hn : new.length = n) {K : Vw → Prop}
    (hK : ∀ σ', KeepsBut F σ σ' → OSl w0 n O σ' F v (xs.set j y) → K σ') : pIndexAddr n v (.int .i64 j) fun p => pStore p new σ K := by
  obtain ⟨b, o, f, c, A, C, r, hix, hb, hr, hc, hA, hOx, hbF, hf, hput⟩ := h.focus ok hj
  refine hix _ ?_
  have hcl := ok.len _ _ _ _ hOx
  refine cell_store hr hc hA (by rw [hcl, hn]) ?_
  exact hK _ (KeepsBut.put hbF) (hput _ new y _ put_at rfl (hO _ _ _ hOx) fun i hi hne _ => by simp [Vw.put, hne])

def Vclone2 (w0 : World) (e1 n1 b1 e2 n2 b2 : Nat) (u v : Value) (σ : Vw) (K : Value → Value → Vw → Prop) : Prop :=
  (pNew w0 e1 [] σ (fun x0 s1 => (pAppendS w0 e1 n1 b1 (.slice (some (Addr.mk x0 0 none)) 0 0) u s1 (fun v2 s3 => pNew w0 e2 [] s3 (fun x4 s5 => pAppendS w0 e2 n2 b2 (.slice (some (Addr.mk x4 0 none)) 0 0) v s5 (fun v6 s7 => K v2 v6 s7)))) ∧
    (pNew w0 e2 [] s1 (fun x8 s9 => pAppendS w0 e1 n1 b1 (.slice (some (Addr.mk x0 0 none)) 0 0) u s9 (fun v10 s11 => pAppendS w0 e2 n2 b2 (.slice (some (Addr.mk x8 0 none)) 0 0) v s11 (fun v12 s13 => K v10 v12 s13)))))) ∧
  (pNew w0 e2 [] σ (fun x14 s15 => pNew w0 e1 [] s15 (fun x16 s17 => pAppendS w0 e1 n1 b1 (.slice (some (Addr.mk x16 0 none)) 0 0) u s17 (fun v18 s19 => pAppendS w0 e2 n2 b2 (.slice (some (Addr.mk x14 0 none)) 0 0) v s19 (fun v20 s21 => K v18 v20 s21)))))

theorem fresh_in {F F' : List Nat} {σ s : Vw} (k : Keeps σ s) (hF : ∀ i, i ∈ F → σ i = none) (h : ∀ i, i ∈ F' → i ∈ F ∨ s i = none) : ∀ i, i ∈ F' → σ i = none := fun i hi => by
  rcases h i hi with e | e
  · exact hF i e
  · cases hs : σ i with
    | none => rfl
    | some r => rw [k i r hs] at e; cases e
theorem KeepsBut.dom {F : List Nat} {σ σ' : Vw} (k : KeepsBut F σ σ') {i : Nat} (h : σ i ≠ none) (hF : i ∉ F) : σ' i ≠ none := by
  cases hs : σ i with
  | none => exact absurd hs h
  | some r => rw [k i r hs hF]; simp

theorem clone2 {e1 n1 b1 e2 n2 b2 : Nat} {R1 : (Addr → Option Value) → List Value → α → Prop} {O1 : Vw → List Nat → List Value → α → Prop} {R2 : (Addr → Option Value) → List Value → γ → Prop} {O2 : Vw → List Nat → List Value → γ → Prop}
    (ok1 : OOk w0 n1 R1 O1) (ok2 : OOk w0 n2 R2 O2) (hO1 : ∀ rd s es y, R1 rd es y → O1 s [] es y) (hO2 : ∀ rd s es y, R2 rd es y → O2 s [] es y) {u v : Value} {xs : List α} {ys : List γ}
    (hu : RSl n1 R1 (Av.get w0 σ) u xs) (hv : RSl n2 R2 (Av.get w0 σ) v ys) (hx : xs.length ≤ 1000000000000) (hy : ys.length ≤ 1000000000000) (hb1 : b1 ≤ 140) (hb2 : b2 ≤ 140) {K : Value → Value → Vw → Prop}
    (hK : ∀ u' F v' G σ', Keeps σ σ' → OAcc w0 e1 n1 O1 σ' F u' xs → OAcc w0 e2 n2 O2 σ' G v' ys → (∀ i, i ∈ F → σ i = none) → (∀ i, i ∈ G → σ i = none) → (∀ i, i ∈ F → i ∉ G) → K u' v' σ') : Vclone2 w0 e1 n1 b1 e2 n2 b2 u v σ K := by
  have nof : ∀ {σ s : Vw} {i : Nat}, Keeps σ s → s i = none → σ i = none := fun {σ s i} k hi => by
    cases hs : σ i with
    | none => rfl
    | some r => rw [k i r hs] at hi; cases hi
  refine ⟨fun x0 h1 h2 => ⟨?_, fun x8 h3 h4 => ?_⟩, fun x14 h1 h2 x16 h3 h4 => ?_⟩
  · have k0 : Keeps σ (σ.put x0 ⟨e1, [], 0, (0, 0)⟩) := Keeps.put h2
    refine OAcc.allX (F := [x0]) ok1 (OAcc.new h1) hu k0.le (hO1 _ _) (by simpa using hx) hb1 fun u' F s ex k1 o1 f1 x4 h3 h4 => ?_
    have hF0 : ∀ i, i ∈ [x0] → σ i = none := fun i hi => by rw [List.mem_singleton.1 hi]; exact h2
    have hF := fresh_in k0 hF0 f1
    have k1' := k1.old k0 hF0
    have k2 : Keeps s (s.put x4 ⟨e2, [], 0, (0, 0)⟩) := Keeps.put h4
    have o1' := o1.frame ok1 (k2.but_at fun b hb => (o1.dom ok1 b hb).2)
    refine OAcc.allX (F := [x4]) ok2 (OAcc.new h3) hv (k1'.trans k2).le (hO2 _ _) (by simpa using hy) hb2 fun v' G s' ex k3 o2 f2 => ?_
    have hG0 : ∀ i, i ∈ [x4] → s i = none := fun i hi => by rw [List.mem_singleton.1 hi]; exact h4
    have hG := fresh_in k2 hG0 f2
    have k3' := k3.old k2 hG0
    have o1'' := o1.frame ok1 (k3'.but_at fun b hb => (o1.dom ok1 b hb).2)
    refine hK u' F v' G s' (k1'.trans k3') (by simpa using o1'') (by simpa using o2) hF (fun i hi => nof k1' (hG i hi)) fun i hi hi' => (o1.dom ok1 i hi).2 (hG i hi')
  · have k0 : Keeps σ (σ.put x0 ⟨e1, [], 0, (0, 0)⟩) := Keeps.put h2
    have k1 : Keeps (σ.put x0 ⟨e1, [], 0, (0, 0)⟩) ((σ.put x0 ⟨e1, [], 0, (0, 0)⟩).put x8 ⟨e2, [], 0, (0, 0)⟩) := Keeps.put h4
    have a1 : OAcc w0 e1 n1 O1 (σ.put x0 ⟨e1, [], 0, (0, 0)⟩) [x0] (.slice (some ⟨x0, 0, none⟩) 0 0) [] := OAcc.new h1
    have a1' := a1.frame ok1 (k1.but_at fun b hb => (a1.dom ok1 b hb).2)
    have a2 : OAcc w0 e2 n2 O2 ((σ.put x0 ⟨e1, [], 0, (0, 0)⟩).put x8 ⟨e2, [], 0, (0, 0)⟩) [x8] (.slice (some ⟨x8, 0, none⟩) 0 0) [] := OAcc.new h3
    have hF0 : ∀ i, i ∈ [x0] → σ i = none := fun i hi => by rw [List.mem_singleton.1 hi]; exact h2
    have hG0 : ∀ i, i ∈ [x8] → σ i = none := fun i hi => by rw [List.mem_singleton.1 hi]; exact nof k0 h4
    have hne : x8 ≠ x0 := fun e => by rw [e, put_at] at h4; cases h4
    have k01 := k0.trans k1
    refine OAcc.allX (F := [x0]) ok1 a1' hu k01.le (hO1 _ _) (by simpa using hx) hb1 fun u' F s ex k2 o1 f1 => ?_
    have hF := fresh_in k01 hF0 f1
    have k2' := k2.old k01 hF0
    have a2' := a2.frame ok2 (k2.at (fun b hb => (a2.dom ok2 b hb).2) fun b hb hb' => hne ((List.mem_singleton.1 hb).symm.trans (List.mem_singleton.1 hb')))
    have hFG : x8 ∉ F := fun hi => by
      rcases f1 _ hi with e | e
      · exact hne (List.mem_singleton.1 e)
      · rw [put_at] at e; cases e
    refine OAcc.allX (F := [x8]) ok2 a2' hv k2'.le (hO2 _ _) (by simpa using hy) hb2 fun v' G s' ex k3 o2 f2 => ?_
    have o1' := o1.frame ok1 (k3.at (fun b hb => (o1.dom ok1 b hb).2) fun b hb hb' => hFG ((List.mem_singleton.1 hb') ▸ hb))
    refine hK u' F v' G s' (k3.old k2' hG0) (by simpa using o1') (by simpa using o2) hF (fresh_in k2' hG0 f2) fun i hi hi' => ?_
    rcases f2 i hi' with e | e
    · exact hFG ((List.mem_singleton.1 e) ▸ hi)
    · exact (o1.dom ok1 i hi).2 e
  · have k0 : Keeps σ (σ.put x14 ⟨e2, [], 0, (0, 0)⟩) := Keeps.put h2
    have k1 : Keeps (σ.put x14 ⟨e2, [], 0, (0, 0)⟩) ((σ.put x14 ⟨e2, [], 0, (0, 0)⟩).put x16 ⟨e1, [], 0, (0, 0)⟩) := Keeps.put h4
    have a2 : OAcc w0 e2 n2 O2 (σ.put x14 ⟨e2, [], 0, (0, 0)⟩) [x14] (.slice (some ⟨x14, 0, none⟩) 0 0) [] := OAcc.new h1
    have a2' := a2.frame ok2 (k1.but_at fun b hb => (a2.dom ok2 b hb).2)
    have a1 : OAcc w0 e1 n1 O1 ((σ.put x14 ⟨e2, [], 0, (0, 0)⟩).put x16 ⟨e1, [], 0, (0, 0)⟩) [x16] (.slice (some ⟨x16, 0, none⟩) 0 0) [] := OAcc.new h3
    have hG0 : ∀ i, i ∈ [x14] → σ i = none := fun i hi => by rw [List.mem_singleton.1 hi]; exact h2
    have hF0 : ∀ i, i ∈ [x16] → σ i = none := fun i hi => by rw [List.mem_singleton.1 hi]; exact nof k0 h4
    have hne : x16 ≠ x14 := fun e => by rw [e, put_at] at h4; cases h4
    have k01 := k0.trans k1
    refine OAcc.allX (F := [x16]) ok1 a1 hu k01.le (hO1 _ _) (by simpa using hx) hb1 fun u' F s ex k2 o1 f1 => ?_
    have hF := fresh_in k01 hF0 f1
    have k2' := k2.old k01 hF0
    have a2'' := a2'.frame ok2 (k2.at (fun b hb => (a2'.dom ok2 b hb).2) fun b hb hb' => hne ((List.mem_singleton.1 hb').symm.trans (List.mem_singleton.1 hb)))
    have hFG : x14 ∉ F := fun hi => by
      rcases f1 _ hi with e | e
      · exact hne (List.mem_singleton.1 e).symm
      · exact absurd e (a2'.dom ok2 x14 (List.mem_singleton.2 rfl)).2
    refine OAcc.allX (F := [x14]) ok2 a2'' hv k2'.le (hO2 _ _) (by simpa using hy) hb2 fun v' G s' ex k3 o2 f2 => ?_
    have o1' := o1.frame ok1 (k3.at (fun b hb => (o1.dom ok1 b hb).2) fun b hb hb' => hFG ((List.mem_singleton.1 hb') ▸ hb))
    refine hK u' F v' G s' (k3.old k2' hG0) (by simpa using o1') (by simpa using o2) hF (fresh_in k2' hG0 f2) fun i hi hi' => ?_
    rcases f2 i hi' with e | e
    · exact hFG ((List.mem_singleton.1 e) ▸ hi)
    · exact (o1.dom ok1 i hi).2 e

/-! ### An element is taken out, in place -/
def VDel (P : Program) (w0 : World) (T ety n bytes : Nat) (z : List Value) (a0 a1 a2 : Value) (σ : Vw) (R : Value → Vw → Prop) : Prop :=
  pLen a0 (fun v0 => pSlice3 n a0 (some a1) (some a2) (some v0) (fun v1 => pBin P T .eql a1 a2 (fun v2 => pIf v2 (R a0 σ) (pLen a0 (fun v3 => pSlice n a0 none (some a1) (fun v4 => pSlice n a0 (some a2) none (fun v5 => pAppendS w0 ety n bytes v4 v5 σ (fun v6 s7 => pLen v6 (fun v8 => pSlice n v6 (some v8) (some v3) (fun v9 => pClear n z v9 s7 (fun s10 => R v6 s10)))))))))))

theorem del_row {T ety n bytes b off cap j : Nat} {z : List Value} {r : Row} {pre post : List Value} {css : List (List Value)} (hz : z.length = n) (hz1 : ∀ c, c ∈ z → c.oneCell' = true) (hb : w0.heap.size ≤ b) (hr : σ b = some r) (hc : r.cells = pre ++ (css.flatten ++ post)) (hpre : pre.length = off)
    (hn : ∀ c, c ∈ css → c.length = n) (h1 : ∀ c, c ∈ css → ∀ u, u ∈ c → u.oneCell' = true) (hn0 : 0 < n) (hcap : css.length ≤ cap ∧ cap ≤ 9223372036854775807) (hj : j < css.length) {R : Value → Vw → Prop}
    (hR : R (.slice (some ⟨b, off, none⟩) (css.length - 1) cap) (σ.put b { r with cells := pre ++ ((css.take j ++ css.drop (j + 1)).flatten ++ (z ++ post)) })) :
    VDel P w0 T ety n bytes z (.slice (some ⟨b, off, none⟩) css.length cap) (.int .i64 (j : Nat)) (.int .i64 ((j : Int) + 1)) σ R := by
  obtain ⟨m, hm⟩ : ∃ m, css.length = j + 1 + m := ⟨css.length - (j + 1), by omega⟩
  have hcj := List.getElem?_eq_getElem hj
  have htl : ∀ c, c ∈ css.take j → c.length = n := fun c hc => hn c (List.mem_of_mem_take hc)
  have hdl : ∀ c, c ∈ css.drop (j + 1) → c.length = n := fun c hc => hn c (List.mem_of_mem_drop hc)
  have hfl := split_at hcj
  have hcl := hn _ (List.getElem_mem hj)
  have htlen : (css.take j).flatten.length = j * n := by rw [flat_len _ htl, List.length_take, Nat.min_eq_left (by omega)]
  have hdlen : (css.drop (j + 1)).flatten.length = m * n := by rw [flat_len _ hdl, List.length_drop]; congr 1; omega
  unfold VDel
  rw [pLen_s]
  refine ⟨some ⟨b, off, none⟩, css.length, cap, (j : Int), (j : Int) + 1, (css.length : Int), rfl, rfl, rfl, rfl, rfl, rfl, by omega, by omega, by omega, by omega, ?_⟩
  rw [pBin_eq, pIf_d]
  refine ⟨fun h => by omega, fun _ => ?_⟩
  rw [pLen_s]
  refine ⟨some ⟨b, off, none⟩, css.length, cap, 0, (j : Int), rfl, rfl, rfl, by omega, by omega, by omega, ?_⟩
  refine ⟨some ⟨b, off, none⟩, css.length, cap, (j : Int) + 1, (css.length : Int), rfl, rfl, rfl, by omega, by omega, by omega, ?_⟩
  have e0 : (if cap = (0 : Int).toNat then some (Addr.mk b off none) else (some (Addr.mk b off none)).map (·.add ((0 : Int).toNat * n))) = some (Addr.mk b off none) := by
    split
    · rfl
    · simp [Addr.add]
  rw [e0]
  simp only [Int.toNat_natCast, Int.toNat_zero, Nat.sub_zero]
  have ej : ((j : Int) + 1).toNat = j + 1 := by omega
  rw [ej]
  have hcells : r.cells = (pre ++ (css.take j).flatten) ++ ((css[j] ++ (css.drop (j + 1)).flatten) ++ post) := by rw [hc, hfl]; simp
  -- what is moved
  refine ⟨_, css.length - (j + 1), cap - (j + 1), (css.drop (j + 1)).flatten, rfl, by rw [hdlen]; congr 1; omega, fun u hu => ?_, fun i hi => ?_, .inl ⟨b, off, j, cap, r, rfl, hr, by omega, by rw [hdlen]; congr 1; omega, fun u hu => ?_, ?_, ?_⟩⟩
  · obtain ⟨c, hc1, hc2⟩ := List.mem_flatten.1 hu
    exact h1 c (List.mem_of_mem_drop hc1) u hc2
  · have hi' : i < m * n := by rw [← hdlen]; exact hi
    have hcapne : ¬ cap = j + 1 := fun e => by
      have : m = 0 := by omega
      subst this; omega
    refine ⟨_, by rw [if_neg hcapne]; rfl, ?_⟩
    rw [add_add, addr_add, get_row hb hr, hc, ← List.getElem?_eq_getElem hi]
    rw [List.getElem?_append_right (by omega), hpre]
    have e2 : off + ((j + 1) * n + i) - off = (j + 1) * n + i := by omega
    have hlt : (j + 1) * n + i < css.flatten.length := by
      rw [flat_len _ hn, hm, Nat.add_mul (j + 1)]; omega
    rw [e2, List.getElem?_append_left hlt]
    have h3 : css.flatten = (css.take (j + 1)).flatten ++ (css.drop (j + 1)).flatten := by rw [← List.flatten_append, List.take_append_drop]
    have h4 : (css.take (j + 1)).flatten.length = (j + 1) * n := by
      rw [flat_len _ fun c hc => hn c (List.mem_of_mem_take hc), List.length_take, Nat.min_eq_left (by omega)]
    rw [h3, List.getElem?_append_right (by omega), h4]
    congr 1; omega
  · obtain ⟨c, hc1, hc2⟩ := List.mem_flatten.1 hu
    exact h1 c (List.mem_of_mem_drop hc1) u hc2
  · rw [hcells]; simp only [List.length_append]; omega
  · -- the cells behind it
    generalize hDe : (css.drop (j + 1)).flatten = D at *
    generalize hTe : (css.take j).flatten = T' at *
    generalize hce : css[j] = cj at *
    have hB : (cj ++ D).length = n + m * n := by rw [List.length_append, hcl, hdlen]
    have hsplit : cj ++ D = (cj ++ D).take (m * n) ++ (cj ++ D).drop (m * n) := (List.take_append_drop _ _).symm
    have hold : ((cj ++ D).take (m * n)).length = D.length := by rw [List.length_take, hB, hdlen]; omega
    have hlast : ((cj ++ D).drop (m * n)).length = n := by rw [List.length_drop, hB]; omega
    have hset : setAt r.cells (off + j * n) D = (pre ++ T') ++ (D ++ ((cj ++ D).drop (m * n) ++ post)) := by
      have hA : (pre ++ T').length = off + j * n := by rw [List.length_append, hpre, htlen]
      have hcells2 : r.cells = (pre ++ T') ++ ((cj ++ D).take (m * n) ++ ((cj ++ D).drop (m * n) ++ post)) := by
        rw [hcells, ← List.append_assoc ((cj ++ D).take (m * n)), List.take_append_drop]
      rw [hcells2, ← hA, setAt_mid _ _ _ _ hold]
    rw [hset]
    have e3 : j + (css.length - (j + 1)) = css.length - 1 := by omega
    rw [e3, pLen_s]
    refine ⟨some ⟨b, off, none⟩, css.length - 1, cap, ((css.length - 1 : Nat) : Int), (css.length : Int), rfl, rfl, rfl, by omega, by omega, by omega, ?_⟩
    simp only [Int.toNat_natCast]
    have e4 : css.length - (css.length - 1) = 1 := by omega
    have hcapne : ¬ cap = css.length - 1 := by omega
    rw [e4, if_neg hcapne]
    refine ⟨hz, hz1, _, 1, cap - (css.length - 1), rfl, .inr ⟨b, off + (css.length - 1) * n, _, by simp [addr_add], by omega, put_at, ?_, ?_⟩⟩
    · simp only [List.length_append, hpre, htlen, hdlen, hlast]
      have : (css.length - 1) * n = j * n + m * n := by rw [← Nat.add_mul]; congr 1; omega
      omega
    · have e5 : (List.replicate 1 z).flatten = z := by simp
      have hA2 : (pre ++ T' ++ D).length = off + (css.length - 1) * n := by
        simp only [List.length_append, hpre, htlen, hdlen]
        have : (css.length - 1) * n = j * n + m * n := by rw [← Nat.add_mul]; congr 1; omega
        omega
      simp only
      rw [e5]
      have e6 : (pre ++ T') ++ (D ++ ((cj ++ D).drop (m * n) ++ post)) = (pre ++ T' ++ D) ++ ((cj ++ D).drop (m * n) ++ post) := by simp
      rw [e6, ← hA2, setAt_mid _ _ _ _ (by rw [hlast, hz]), put_put]
      have e7 : (pre ++ T' ++ D) ++ (z ++ post) = pre ++ ((css.take j ++ css.drop (j + 1)).flatten ++ (z ++ post)) := by
        rw [List.flatten_append, hTe, hDe]; simp
      rw [e7]
      exact hR

/-- An element of a list of our own is taken out: what is read then. -/
theorem OSl.del {T ety n bytes j : Nat} {z : List Value} {Rel : (Addr → Option Value) → List Value → α → Prop} {O : Vw → List Nat → List Value → α → Prop} (ok : OOk w0 n Rel O) (hO : ∀ s s' f es y, O s f es y → f = [] ∧ O s' f es y) (hz : z.length = n) (hz1 : ∀ c, c ∈ z → c.oneCell' = true) (hn0 : 0 < n) {F : List Nat} {v : Value} {xs : List α}
    (h : OSl w0 n O σ F v xs) (hj : j < xs.length) {R : Value → Vw → Prop} (hR : ∀ v' σ', KeepsBut F σ σ' → RSl n Rel (Av.get w0 σ') v' (xs.take j ++ xs.drop (j + 1)) → R v' σ') : VDel P w0 T ety n bytes z v (.int .i64 (j : Nat)) (.int .i64 ((j : Int) + 1)) σ R := by
  obtain ⟨g1, g2, ⟨rfl, rfl, _⟩ | ⟨b, off, cap, r, pre, post, css, Fs, rfl, gc, g3, g4, g5, g6, g7, g8, g9, g10⟩⟩ := h
  · simp at hj
  · have each : ∀ (i : Nat) (c : List Value), css[i]? = some c → ∃ x f, xs[i]? = some x ∧ O σ f c x := fun i c hi => by
      have hlt : i < css.length := (List.getElem?_eq_some_iff.1 hi).1
      exact ⟨_, _, List.getElem?_eq_getElem (by omega), g10 i c _ _ hi (List.getElem?_eq_getElem (by omega)) (List.getElem?_eq_getElem (by omega))⟩
    have hn : ∀ c, c ∈ css → c.length = n := fun c hc => by obtain ⟨i, hi⟩ := List.getElem?_of_mem hc; obtain ⟨x, f, _, ho⟩ := each i c hi; exact ok.len _ _ _ _ ho
    have h1 : ∀ c, c ∈ css → ∀ u, u ∈ c → u.oneCell' = true := fun c hc => by obtain ⟨i, hi⟩ := List.getElem?_of_mem hc; obtain ⟨x, f, _, ho⟩ := each i c hi; exact ok.one _ _ _ _ ho
    rw [← g7]
    refine del_row hz hz1 g3 g4 g5 g6 hn h1 hn0 (by rw [g7]; exact gc) (by omega) (hR _ _ (KeepsBut.put (by rw [g9]; exact List.mem_cons_self)) ?_)
    have hlen : (xs.take j ++ xs.drop (j + 1)).length = css.length - 1 := by simp only [List.length_append, List.length_take, List.length_drop]; omega
    refine ⟨_, cap, by rw [hlen], by rw [hlen]; omega, fun i x hi => ?_⟩
    -- the cells of the element
    have hget : ∃ c f, (css.take j ++ css.drop (j + 1))[i]? = some c ∧ O σ f c x := by
      by_cases hij : i < j
      · rw [List.getElem?_append_left (by rw [List.length_take]; omega), List.getElem?_take_of_lt hij] at hi
        refine ⟨css[i]'(by omega), _, ?_, g10 i _ x _ (List.getElem?_eq_getElem (by omega)) hi (List.getElem?_eq_getElem (by omega))⟩
        rw [List.getElem?_append_left (by rw [List.length_take]; omega), List.getElem?_take_of_lt hij]
        exact List.getElem?_eq_getElem (by omega)
      · rw [List.getElem?_append_right (by rw [List.length_take]; omega), List.getElem?_drop, List.length_take, Nat.min_eq_left (by omega)] at hi
        have hlt : j + 1 + (i - j) < xs.length := (List.getElem?_eq_some_iff.1 hi).1
        refine ⟨css[j + 1 + (i - j)]'(by omega), _, ?_, g10 _ _ x _ (List.getElem?_eq_getElem (by omega)) hi (List.getElem?_eq_getElem (by omega))⟩
        rw [List.getElem?_append_right (by rw [List.length_take]; omega), List.getElem?_drop, List.length_take, Nat.min_eq_left (by omega)]
        exact List.getElem?_eq_getElem (by omega)
    obtain ⟨c, f, hci, ho⟩ := hget
    have hn' : ∀ c, c ∈ css.take j ++ css.drop (j + 1) → c.length = n := fun c hc => by
      rcases List.mem_append.1 hc with h | h
      · exact hn c (List.mem_of_mem_take h)
      · exact hn c (List.mem_of_mem_drop h)
    obtain ⟨rfl, ho'⟩ := hO σ (σ.put b { r with cells := pre ++ ((css.take j ++ css.drop (j + 1)).flatten ++ (z ++ post)) }) f c x ho
    refine ⟨_, c, rfl, ok.len _ _ _ _ ho, fun k hk => ?_, ok.rel _ _ _ _ ho'⟩
    rw [addr_add, get_row g3 put_at]
    simp only
    rw [List.getElem?_append_right (by omega), show off + (i * n + k) - pre.length = i * n + k by omega, List.getElem?_append_left, flat_get _ hn' i c hci k hk]
    have hil : i < (css.take j ++ css.drop (j + 1)).length := (List.getElem?_eq_some_iff.1 hci).1
    rw [flat_len _ hn']
    calc i * n + k < i * n + n := by omega
      _ = (i + 1) * n := by rw [Nat.add_mul, Nat.one_mul]
      _ ≤ (css.take j ++ css.drop (j + 1)).length * n := Nat.mul_le_mul_right n hil
end
end Go.Av

/- Checkpoints by either hand; 'StoreNew' and its law. -/
set_option linter.unusedVariables false
set_option linter.unusedSimpArgs false
namespace Go.Proofs.YtkndffhcncmbjaaDoor
open Go Go.Av Go.RowKit

def rng' (n : Int) : Prop := -9223372036854775808 ≤ n ∧ n ≤ 9223372036854775807
def savedP (gen : Int) (text : ByteArray) (n : Nat) : List Rw := (List.range n).map fun i => (areaI gen + (i : Nat), pieceB text i 64)
def savedR (gen : Int) (text : ByteArray) : List Rw := savedP gen text (manyN text 64) ++ [(gen % 2, headB gen text.size)]
theorem savedP_succ (gen : Int) (text : ByteArray) (n : Nat) : savedP gen text (n + 1) = savedP gen text n ++ [(areaI gen + (n : Nat), pieceB text n 64)] := by simp [savedP, List.range_succ]
theorem savedP_len (gen : Int) (text : ByteArray) (n : Nat) : (savedP gen text n).length = n := by simp [savedP]
theorem savedR_len (gen : Int) (text : ByteArray) : (savedR gen text).length = manyN text 64 + 1 := by simp [savedR, savedP_len]
theorem many64 {s : ByteArray} (h : s.size ≤ 5760) : manyN s 64 ≤ 90 := by unfold manyN; omega
theorem area_le {gen : Int} (h : 0 ≤ gen) : 14 ≤ areaI gen ∧ areaI gen ≤ 104 := by unfold areaI; omega
theorem head_size {gen : Int} {n : Nat} (hg : 0 ≤ gen ∧ gen ≤ 1000000) (hn : n ≤ 1000000) : (headB gen n).size ≤ 1000000 := by
  unfold headB
  have h1 := (decN_size n).2
  have h2 := (decN_size gen.toNat).2
  have e : decZ gen = decN gen.toNat := by unfold decZ; rw [if_neg (by omega)]
  rw [ByteArray.size_append, ByteArray.size_append, ByteArray.size_append, e]
  show 2 + _ + 1 + _ ≤ _
  omega
def newR (text : ByteArray) : List Rw × Bool := if text.size ≤ 5760 then (savedR 1 text, true) else ([], false)

section
variable {w0 : World} {σ : Vw}

theorem cat4 {a b c d : ByteArray} {T : Nat} {K : Value → Prop} (h : a.size + b.size + c.size + d.size ≤ 9223372036854775807) : pBin Tryd.prog T .add (.string a) (.string b) (fun x => pBin Tryd.prog T .add x (.string c) K) ↔ K (.string (a ++ b ++ c)) := by
  rw [pBin_cat (by omega)]
  rw [pBin_cat (by rw [ByteArray.size_append]; omega)]

theorem spec_l22Head {gen : Int} {text : ByteArray} {R : Value → Vw → Prop} (hg : 0 ≤ gen ∧ gen ≤ 1000000) (hs : text.size ≤ 1000000) (hR : ∀ σ', Keeps σ σ' → R (.string (headB gen text.size)) σ') : AC Tryd.prog w0 n_spec_l22Head [.int .i64 gen, .string text] σ R := by
  refine ac_spec_l22Head ?_
  unfold vc_spec_l22Head
  have h1 := (decN_size text.size).2
  have h2 := decZ_size (n := gen) (by omega)
  refine spec_l22Dec (by omega) fun s1 k1 => ?_
  rw [pBin_cat (by show 2 + _ ≤ _; omega), pBin_cat (by rw [ByteArray.size_append]; show 2 + _ + 1 ≤ _; omega), pLenS_s]
  refine spec_l22Dec_nat _ (by omega) fun s2 k2 => ?_
  rw [pBin_cat (by rw [ByteArray.size_append, ByteArray.size_append]; show 2 + _ + 1 + _ ≤ _; omega)]
  exact hR s2 (k1.trans k2)

theorem impl_checkHead (tab : Tab w0) {gen : Int} {n : Nat} {R : Value → Vw → Prop} (hg : 0 ≤ gen ∧ gen ≤ 1000000) (hs : n ≤ 1000000) (hR : R (.string (headB gen n)) σ) : AC Tryd.prog w0 n_impl_checkHead [.int .i64 gen, .int .i64 (n : Nat)] σ R := by
  refine ac_impl_checkHead ?_
  unfold vc_impl_checkHead
  have h1 := (decN_size n).2
  have h2 := decZ_size (n := gen) (by omega)
  refine strconv_Itoa tab (by omega) ?_
  rw [pBin_cat (by show 2 + _ ≤ _; omega), pBin_cat (by rw [ByteArray.size_append]; show 2 + _ + 1 ≤ _; omega)]
  refine strconv_Itoa tab (by omega) ?_
  rw [decZ_nat, pBin_cat (by rw [ByteArray.size_append, ByteArray.size_append]; show 2 + _ + 1 + _ ≤ _; omega)]
  exact hR

theorem raw_app {F : List Nat} {v : Value} {xs : List Rw} {a : Int} {t : ByteArray} (ho : OAcc w0 t_impl_Raw 2 ORaw σ F v xs) (ha : rng' a) (ht : t.size ≤ 9223372036854775807) (hl : xs.length ≤ 1000000) {K : Value → Vw → Prop}
    (hK : ∀ v' F' σ', KeepsBut F σ σ' → OAcc w0 t_impl_Raw 2 ORaw σ' F' v' (xs ++ [(a, t)]) → (∀ i, i ∈ F' → i ∈ F ∨ σ i = none) → K v' σ') :
    pVal false 1 (.int .i64 a) (pVal false 1 (.string t) (pVal true 2 (.agg ⟨[.int .i64 a, .string t]⟩) (allOne [.int .i64 a, .string t] ∧ pAppend w0 t_impl_Raw 2 24 v 1 [.int .i64 a, .string t] σ K))) := by
  rw [pVal1 rfl, pVal1 rfl, pVal_2 rfl rfl]
  refine ho.one (ok_raw w0) (f := []) (y := (a, t)) ⟨rfl, rfl, ha, ht⟩ (by simp) (by omega) (by omega) fun v' F' σ' k o f => hK v' F' σ' k o fun i hi => ?_
  rcases f i hi with h | h | h
  · exact .inl h
  · cases h
  · exact .inr h

theorem spec_l22Saved {gen : Int} {text : ByteArray} {R : Value → Vw → Prop} (hg : 0 ≤ gen ∧ gen ≤ 1000000) (hs : text.size ≤ 5760)
    (hR : ∀ v F σ', Keeps σ σ' → OAcc w0 t_impl_Raw 2 ORaw σ' F v (savedR gen text) → (∀ i, i ∈ F → σ i = none) → R v σ') : AC Tryd.prog w0 n_spec_l22Saved [.int .i64 gen, .string text] σ R := by
  refine ac_spec_l22Saved ?_
  unfold vc_spec_l22Saved
  intro b h1 h2
  have h90 := many64 hs
  have har := area_le hg.1
  have new := OAcc.new (w0 := w0) (σ := σ) (ety := t_impl_Raw) (n := 2) (O := ORaw) h1
  have fin : ∀ (v : Value) (F : List Nat) (s : Vw), Keeps σ s → (∀ i, i ∈ F → σ i = none) → OAcc w0 t_impl_Raw 2 ORaw s F v (savedP gen text (manyN text 64)) → pBin Tryd.prog 3 .rem (.int .i64 gen) (.int .i64 2) (fun v19 => AC Tryd.prog w0 n_spec_l22Head [.int .i64 gen, .string text] s (fun v20 s21 => pVal false 1 v19 (pVal false 1 v20 (pVal true 2 (.agg ⟨[v19, v20]⟩) ((allOne [v19, v20]) ∧ (pAppend w0 t_impl_Raw 2 24 v 1 [v19, v20] s21 (fun v22 s23 => R v22 s23))))))) := by
    intro v F s ks hF ho
    rw [pBin_rem (by omega)]
    refine spec_l22Head hg (by omega) fun s1 k1 => ?_
    have ho1 := ho.frame (ok_raw w0) (k1.but_at fun b hb => (ho.dom (ok_raw w0) b hb).2)
    refine raw_app ho1 (by unfold rng'; omega) (by have := head_size hg (show text.size ≤ 1000000 by omega); omega) (by rw [savedP_len]; omega) fun v' F' s2 k2 o2 f2 => ?_
    exact hR v' F' s2 (k2.old (ks.trans k1) hF) o2 (fresh_in (ks.trans k1) hF f2)
  refine loop_rule (m := manyN text 64) (fun m l s => ∃ (i : Nat) (v : Value) (F : List Nat), m + i = manyN text 64 ∧ Keeps σ s ∧ (∀ j, j ∈ F → σ j = none) ∧ OAcc w0 t_impl_Raw 2 ORaw s F v (savedP gen text i) ∧ l = [.int .i64 gen, .string text, v, .int .i64 (i : Nat)]) ?_
    ⟨0, _, [b], by omega, Keeps.put h2, (fun j hj => by rw [List.mem_singleton.1 hj]; exact h2), by simpa [savedP] using new, rfl⟩
  rintro m l s L ⟨i, v, F, hm, ks, hF, ho, rfl⟩ hL
  simp only [vget, List.getD_cons_zero, List.getD_cons_succ]
  refine spec_l22Many (size := 64) (by omega) (by omega) ?_
  rw [pBin_lt, pIf_d]
  refine ⟨fun hi => ?_, fun hi => ?_⟩
  · refine spec_l22Area hg ?_
    rw [pBin_add (by omega)]
    refine spec_l22Piece (size := 64) (by omega) (by omega) ((lt_many (by omega)).1 (by omega)) ?_
    have hps := piece_size text i 64
    refine raw_app ho (by unfold rng'; omega) (by omega) (by rw [savedP_len]; omega) fun v' F' s2 k2 o2 f2 => ?_
    rw [pBin_add (by omega)]
    rw [← savedP_succ] at o2
    exact hL _ _ (m - 1) (by omega) ⟨i + 1, v', F', by omega, k2.old ks hF, fresh_in ks hF f2, o2, by simp⟩
  · have e : i = manyN text 64 := by omega
    subst e
    exact fin v F s ks hF ho

theorem impl_checkpoint (tab : Tab w0) {gen : Int} {text : ByteArray} {R : Value → Vw → Prop} (hg : 0 ≤ gen ∧ gen ≤ 1000000) (hs : text.size ≤ 5760)
    (hR : ∀ v F σ', Keeps σ σ' → OAcc w0 t_impl_Raw 2 ORaw σ' F v (savedR gen text) → (∀ i, i ∈ F → σ i = none) → R v σ') : AC Tryd.prog w0 n_impl_checkpoint [.int .i64 gen, .string text] σ R := by
  refine ac_impl_checkpoint ?_
  unfold vc_impl_checkpoint
  intro b h1 h2
  have h90 := many64 hs
  have har := area_le hg.1
  have new := OAcc.new (w0 := w0) (σ := σ) (ety := t_impl_Raw) (n := 2) (O := ORaw) h1
  rw [pLenS_s]
  refine impl_pieces' (size := 64) (by omega) (by omega) ?_
  refine loop_rule (m := manyN text 64) (fun m l s => ∃ (i : Nat) (v : Value) (F : List Nat), m + i = manyN text 64 ∧ Keeps σ s ∧ (∀ j, j ∈ F → σ j = none) ∧ OAcc w0 t_impl_Raw 2 ORaw s F v (savedP gen text i) ∧ l = [.int .i64 gen, .string text, v, .int .i64 (manyN text 64 : Nat), .int .i64 (i : Nat)]) ?_
    ⟨0, _, [b], by omega, Keeps.put h2, (fun j hj => by rw [List.mem_singleton.1 hj]; exact h2), by simpa [savedP] using new, rfl⟩
  rintro m l s L ⟨i, v, F, hm, ks, hF, ho, rfl⟩ hL
  simp only [vget, List.getD_cons_zero, List.getD_cons_succ]
  rw [pBin_lt, pIf_d]
  refine ⟨fun hi => ?_, fun hi => ?_⟩
  · have hlt := (lt_many (s := text) (size := 64) (i := i) (by omega)).1 (by omega)
    rw [pBin_add (by omega), pBin_mul (by omega), pLenS_s, pMin_s, pBin_mul (by omega)]
    refine pSliceStr_s (l := (i : Int) * 64) (h := min (((i : Int) + 1) * 64) text.size) rfl rfl (by omega) ?_
    have hp : text.extract ((i : Int) * 64).toNat (min (((i : Int) + 1) * 64) text.size).toNat = pieceB text i 64 := by
      unfold pieceB
      congr 1 <;> omega
    rw [hp]
    refine impl_areaFirst hg ?_
    rw [pBin_add (by omega)]
    have hps := piece_size text i 64
    refine raw_app ho (by unfold rng'; omega) (by omega) (by rw [savedP_len]; omega) fun v' F' s2 k2 o2 f2 => ?_
    rw [pBin_add (by omega)]
    rw [← savedP_succ] at o2
    exact hL _ _ (m - 1) (by omega) ⟨i + 1, v', F', by omega, k2.old ks hF, fresh_in ks hF f2, o2, by simp⟩
  · have e : i = manyN text 64 := by omega
    subst e
    show pBin Tryd.prog 3 .rem (.int .i64 gen) (.int .i64 2) _
    rw [pBin_rem (by omega), pLenS_s]
    refine impl_checkHead tab hg (by omega) ?_
    refine raw_app ho (by unfold rng'; omega) (by have := head_size hg (show text.size ≤ 1000000 by omega); omega) (by rw [savedP_len]; omega) fun v' F' s2 k2 o2 f2 => ?_
    exact hR v' F' s2 (k2.old ks hF) o2 (fresh_in ks hF f2)

theorem raw_new {b : Nat} (hb : w0.heap.size ≤ b) {ety : Nat} : OSl w0 2 ORaw (σ.put b ⟨ety, [], 0, (0, 0)⟩) [b] (.slice (some ⟨b, 0, none⟩) 0 0) [] := (OAcc.new (w0 := w0) (σ := σ) (ety := ety) (n := 2) (O := ORaw) hb).osl

theorem spec_l22TextOk {text : ByteArray} {R : Value → Vw → Prop} (hR : R (.bool (decide (text.size ≤ 5760))) σ) : AC Tryd.prog w0 n_spec_l22TextOk [.string text] σ R := by
  refine ac_spec_l22TextOk ?_
  unfold vc_spec_l22TextOk
  rw [pLenS_s, pBin_le]
  have e : decide ((text.size : Int) ≤ 5760) = decide (text.size ≤ 5760) := by congr 1; apply propext; omega
  rw [e]; exact hR
theorem spec_StoreNew {text : ByteArray} {R : Value → Vw → Prop} (hR : ∀ v F σ', Keeps σ σ' → OSl w0 2 ORaw σ' F v (newR text).1 → (∀ i, i ∈ F → σ i = none) → R (.tuple ⟨[v, .bool (newR text).2]⟩) σ') : AC Tryd.prog w0 n_spec_StoreNew [.string text] σ R := by
  refine ac_spec_StoreNew ?_
  unfold vc_spec_StoreNew
  refine spec_l22TextOk ?_
  rw [pUn_not, pIf_b]
  refine ⟨fun h => ?_, fun h => ?_⟩
  · have e : newR text = ([], false) := by simp at h; simp [newR, show ¬ text.size ≤ 5760 by omega]
    rw [e] at hR
    intro b h1 h2
    exact hR _ [b] _ (Keeps.put h2) (raw_new h1) fun i hi => by rw [List.mem_singleton.1 hi]; exact h2
  · have hs : text.size ≤ 5760 := by simp at h; omega
    have e : newR text = (savedR 1 text, true) := by simp [newR, hs]
    rw [e] at hR
    exact spec_l22Saved (by omega) hs fun v F s k o f => hR v F s k o.osl f

theorem impl_StoreNew (tab : Tab w0) {text : ByteArray} {R : Value → Vw → Prop} (hR : ∀ v F σ', Keeps σ σ' → OSl w0 2 ORaw σ' F v (newR text).1 → (∀ i, i ∈ F → σ i = none) → R (.tuple ⟨[v, .bool (newR text).2]⟩) σ') : AC Tryd.prog w0 n_impl_StoreNew [.string text] σ R := by
  refine ac_impl_StoreNew ?_
  unfold vc_impl_StoreNew
  rw [pLenS_s, pBin_gt, pIf_d]
  refine ⟨fun h => ?_, fun h => ?_⟩
  · have e : newR text = ([], false) := by simp [newR, show ¬ text.size ≤ 5760 by omega]
    rw [e] at hR
    intro b h1 h2
    exact hR _ [b] _ (Keeps.put h2) (raw_new h1) fun i hi => by rw [List.mem_singleton.1 hi]; exact h2
  · have hs : text.size ≤ 5760 := by omega
    have e : newR text = (savedR 1 text, true) := by simp [newR, hs]
    rw [e] at hR
    exact impl_checkpoint tab (by omega) hs fun v F s k o f => hR v F s k o.osl f

theorem newR_len (text : ByteArray) : (newR text).1.length ≤ 91 := by
  unfold newR
  split
  · rename_i h
    rw [savedR_len]
    have := many64 h
    omega
  · simp

theorem heldRawS {v : Value} {xs : List Rw} {k : Nat} (h : RSl 2 RRaw (Av.get w0 σ) v (mkS mkRaw (fun _ => 2) k xs)) (hk : k + sumBy (fun _ => 2) xs ≤ 1000000000000) {R : Value → Vw → Prop}
    (hR : ∀ σ', Keeps σ σ' → R (.int .i64 ((k + sumBy (fun _ => 2) xs : Nat) : Int)) σ') : AC Tryd.prog w0 n_laws_heldRawS [v, .int .i64 (k : Nat)] σ R := by
  refine ac_laws_heldRawS ?_
  unfold vc_laws_heldRawS
  refine held_loop (n := 2) (Rel := RRaw) (fun _ _ _ _ hl h => h) (mk := mkRaw) (cnt := fun _ => 2) h hk ?_ hR
  intro j x k' s K hj hkb hx hk' hrd hyj hK
  have hl := h.le
  rw [mkS_len] at hl
  simp only [vget, List.getD_cons_zero, List.getD_cons_succ]
  refine hrd.atf hyj 0 (by omega) fun es g ⟨h1, _⟩ hg => ?_
  have hg : g 0 = .int .i64 (k' : Nat) := by rw [h1] at hg; simpa [encRaw, mkRaw] using hg.symm
  rw [hg, pBin_ne, pIf_d]
  refine ⟨fun h => absurd rfl h, fun _ => ?_⟩
  rw [pBin_add (by omega)]
  refine hrd.atfp hyj 1 (by omega) fun q es g ⟨h1, _⟩ hg => ?_
  have hg : g 0 = .string (mtext (k' + 1)) := by rw [h1] at hg; simpa [encRaw, mkRaw] using hg.symm
  refine markText (k := k' + 1) (by omega) fun s1 k1 => ⟨k1.stay, ?_⟩
  rw [hg, pBin_sne, pIf_d]
  refine ⟨fun h => absurd rfl h, fun _ => ?_⟩
  rw [pBin_add (by omega), pBin_add (by omega)]
  have := hK _ k1
  rw [show ((k' + 2 : Nat) : Int) = ((k' : Nat) : Int) + 1 + 1 by omega] at this
  exact this

theorem law_StoreNew (tab : Tab w0) {text : ByteArray} (hs : text.size ≤ 9223372036854775807) {R : Value → Vw → Prop} (hR : ∀ σ', R (.bool true) σ') : AC Tryd.prog w0 n_laws_FnExactStoreNew [.string text] σ R := by
  refine ac_laws_FnExactStoreNew ?_
  unfold vc_laws_FnExactStoreNew
  rw [pLenS_s, pBin_gt, pIf_d]
  refine ⟨fun _ => hR _, fun _ => ?_⟩
  have hl := newR_len text
  have hc := sum_const (α := Rw) 2 (newR text).1
  have ok := ok_raw w0
  refine spec_StoreNew fun w Fw s1 k1 ow fw => ?_
  rw [pExtract_s rfl, pExtract_s rfl]
  have hw := ow.rel ok
  refine impl_StoreNew tab fun g Fg s2 k2 og fg => ?_
  rw [pExtract_s rfl, pExtract_s rfl]
  refine eqRawS (og.rel ok) (hw.mono k2.le fun _ _ h => h) ?_
  rw [pUn_not, pIf_b]
  refine ⟨fun h => by simp at h, fun _ => ?_⟩
  rw [pBin_b (v := .bool false) (by kernel_rfl) (by simp), pIf_b]
  refine ⟨nofun, fun _ => ?_⟩
  refine markRawS (k := 1) og (by omega) fun s3 k3 o3 => ?_
  refine heldRawS (k := 1) (o3.rel ok) (by omega) fun s4 k4 => ?_
  rw [pBin_lt, pIf_d]
  refine ⟨fun h => by omega, fun _ => ?_⟩
  rw [pBin_ne, pIf_d]
  refine ⟨fun h => absurd rfl h, fun _ => ?_⟩
  have k24 : Keeps s1 s4 := (k3.old k2 fg).trans k4
  have o4 := o3.frame ok (k4.but_at fun b hb => (o3.dom ok b hb).2)
  refine impl_StoreNew tab fun h Fh s5 k5 oh fh => ?_
  rw [pExtract_s rfl, pExtract_s rfl]
  refine eqRawS (oh.rel ok) (hw.mono (k24.trans k5).le fun _ _ h => h) ?_
  rw [pUn_not, pIf_b]
  refine ⟨fun h => by simp at h, fun _ => ?_⟩
  rw [pBin_b (v := .bool false) (by kernel_rfl) (by simp), pIf_b]
  refine ⟨nofun, fun _ => ?_⟩
  have o5 := o4.frame ok (k5.but_at fun b hb => (o4.dom ok b hb).2)
  refine heldRawS (k := 1) (o5.rel ok) (by omega) fun s6 k6 => ?_
  rw [pBin_lt, pIf_d]
  refine ⟨fun h => by omega, fun _ => ?_⟩
  rw [pBin_ne, pIf_d]
  exact ⟨fun h => absurd rfl h, fun _ => hR _⟩
end
end Go.Proofs.YtkndffhcncmbjaaDoor

/- Stores: a group is appended, a checkpoint is saved: by either hand. -/
set_option linter.unusedVariables false
set_option linter.unusedSimpArgs false
namespace Go.Proofs.YtkndffhcncmbjaaDoor
open Go Go.Av Go.RowKit

/-- A store: its number, its text, its groups, the next free block of the log. -/
abbrev Sto := Int × ByteArray × List ByteArray × Int
def RSto (rd : Addr → Option Value) (es : List Value) (x : Sto) : Prop := ∃ v, es = [.int .i64 x.1, .string x.2.1, v, .int .i64 x.2.2.2] ∧ RSl 1 RS rd v x.2.2.1 ∧ rng' x.1 ∧ x.2.1.size ≤ 9223372036854775807 ∧ rng' x.2.2.2
def OSto (w0 : World) (σ : Vw) (F : List Nat) (es : List Value) (x : Sto) : Prop := ∃ v, es = [.int .i64 x.1, .string x.2.1, v, .int .i64 x.2.2.2] ∧ OStrs w0 σ F v x.2.2.1 ∧ rng' x.1 ∧ x.2.1.size ≤ 9223372036854775807 ∧ rng' x.2.2.2
def szSto (x : Sto) : Nat := x.2.1.size + (x.2.2.1.length + sumS x.2.2.1)
def blkN (g : ByteArray) : Nat := 1 + manyN g 63
def grpOk (gs : List ByteArray) : Bool := gs.all fun g => decide (g.size ≤ 600)
def stOk (x : Sto) : Bool := grpOk x.2.2.1 && (inB x.1 1 99999 && (decide (x.2.1.size ≤ 5760) && (decide (((sumBy blkN x.2.2.1 : Nat) : Int) = x.2.2.2) && decide (((sumBy blkN x.2.2.1 : Nat) : Int) ≤ 12))))
def gheadB (gen : Int) (k n : Nat) : ByteArray := ⟨#[72, 32]⟩ ++ decZ gen ++ ⟨#[32]⟩ ++ decN k ++ ⟨#[32]⟩ ++ decN n
def apP (next : Int) (g : ByteArray) (n : Nat) : List Rw := (List.range n).map fun i => (2 + next + 1 + (i : Nat), ⟨#[68]⟩ ++ pieceB g i 63)
def appR (x : Sto) (g : ByteArray) : List Rw × Sto × Int :=
  if stOk x = false then ([], (0, ⟨#[]⟩, [], 0), 1)
  else if 600 < g.size then ([], x, 6)
  else if 12 < x.2.2.2 + (blkN g : Nat) then ([], x, 4)
  else (apP x.2.2.2 g (manyN g 63) ++ [(2 + x.2.2.2, gheadB x.1 x.2.2.1.length g.size)], (x.1, x.2.1, x.2.2.1 ++ [g], x.2.2.2 + (blkN g : Nat)), 0)
def saveR (x : Sto) (t : ByteArray) : List Rw × Sto × Int :=
  if stOk x = false then ([], (0, ⟨#[]⟩, [], 0), 1)
  else if 5760 < t.size then ([], x, 4)
  else if 99999 ≤ x.1 then ([], x, 5)
  else (savedR (x.1 + 1) t, (x.1 + 1, t, [], 0), 0)

theorem apP_succ (next : Int) (g : ByteArray) (n : Nat) : apP next g (n + 1) = apP next g n ++ [(2 + next + 1 + (n : Nat), ⟨#[68]⟩ ++ pieceB g n 63)] := by simp [apP, List.range_succ]
theorem apP_len (next : Int) (g : ByteArray) (n : Nat) : (apP next g n).length = n := by simp [apP]
theorem many63 {s : ByteArray} (h : s.size ≤ 600) : manyN s 63 ≤ 10 := by unfold manyN; omega
theorem blk_le {s : ByteArray} (h : s.size ≤ 1000000000) : blkN s ≤ 1000000000 := by unfold blkN manyN; omega
theorem blk_600 {s : ByteArray} (h : s.size ≤ 600) : 1 ≤ blkN s ∧ blkN s ≤ 11 := by have := many63 h; unfold blkN; omega
theorem blk_sum : ∀ {gs : List ByteArray}, (∀ y, y ∈ gs → y.size ≤ 600) → gs.length ≤ sumBy blkN gs ∧ sumBy blkN gs ≤ 11 * gs.length
  | [], _ => by simp [sumBy]
  | y :: gs, h => by
    have h1 := blk_600 (h y (by simp))
    have h2 := blk_sum (gs := gs) fun z hz => h z (by simp [hz])
    simp only [sumBy, List.length_cons]; omega
theorem grpOk_iff {gs : List ByteArray} : grpOk gs = true ↔ ∀ y, y ∈ gs → y.size ≤ 600 := by simp [grpOk]
theorem stOk_all {gen next : Int} {text : ByteArray} {gs : List ByteArray} (h : ∀ y, y ∈ gs → y.size ≤ 600) : stOk (gen, text, gs, next) = (inB gen 1 99999 && (decide (text.size ≤ 5760) && (decide (((sumBy blkN gs : Nat) : Int) = next) && decide (((sumBy blkN gs : Nat) : Int) ≤ 12)))) := by
  simp [stOk, grpOk_iff.2 h]
theorem stOk_no {gen next : Int} {text : ByteArray} {gs : List ByteArray} {y : ByteArray} (h : y ∈ gs) (hy : 600 < y.size) : stOk (gen, text, gs, next) = false := by
  cases hc : grpOk gs with
  | false => simp [stOk, hc]
  | true => have := grpOk_iff.1 hc y h; omega
theorem stOk_of {x : Sto} (h : stOk x = true) : (∀ y, y ∈ x.2.2.1 → y.size ≤ 600) ∧ (1 ≤ x.1 ∧ x.1 ≤ 99999) ∧ x.2.1.size ≤ 5760 ∧ (0 ≤ x.2.2.2 ∧ x.2.2.2 ≤ 12) ∧ x.2.2.1.length ≤ 12 := by
  simp only [stOk, Bool.and_eq_true, decide_eq_true_eq, grpOk_iff, inB] at h
  have := (blk_sum h.1).1
  exact ⟨h.1, h.2.1, h.2.2.1, by omega, by omega⟩
theorem mem_take_succ {α : Type} {xs : List α} {j : Nat} {x : α} (hj : xs[j]? = some x) {p : α → Prop} (h : ∀ y, y ∈ xs.take j → p y) (hx : p x) : ∀ y, y ∈ xs.take (j + 1) → p y := by
  intro y hy
  rw [List.take_add_one, hj] at hy
  rcases List.mem_append.1 hy with e | e
  · exact h y e
  · simp at e; rw [e]; exact hx

section
variable {w0 : World} {σ : Vw}

theorem pVal_4 {a b c d : Value} {A : Prop} (h1 : a.oneCell' = true) (h2 : b.oneCell' = true) (h3 : c.oneCell' = true) (h4 : d.oneCell' = true) : pVal true 4 (.agg ⟨[a, b, c, d]⟩) A ↔ A := pValN rfl (by simp [h1, h2, h3, h4])

theorem ok_sto (w0 : World) : OOk w0 4 RSto (OSto w0) := by
  refine ⟨?_, ?_, ?_, ?_, ?_, ?_⟩
  · rintro σ F es x ⟨v, h1, h2, h3⟩; exact ⟨v, h1, h2.rel (ok_str w0), h3⟩
  · rintro σ σ' F es x ⟨v, h1, h2, h3⟩ hF; exact ⟨v, h1, h2.frame (ok_str w0) hF, h3⟩
  · rintro σ F es x ⟨v, h1, h2, h3⟩; exact h2.dom (ok_str w0)
  · rintro σ F es x ⟨v, h1, h2, h3⟩; exact h2.2.1
  · rintro σ F es x ⟨v, rfl, h2, h3⟩; rfl
  · rintro σ F es x ⟨v, rfl, h2, h3⟩ c hc
    simp at hc
    rcases hc with rfl | rfl | rfl | rfl
    · rfl
    · rfl
    · exact OSl.one' h2
    · rfl
theorem mono_sto {rd rd' : Addr → Option Value} {es : List Value} {x : Sto} (hl : Le rd rd') (h : RSto rd es x) : RSto rd' es x := by
  obtain ⟨v, h1, h2, h3⟩ := h; exact ⟨v, h1, h2.mono hl fun _ _ h => h, h3⟩
theorem RSto.four {rd : Addr → Option Value} {es : List Value} {x : Sto} (h : RSto rd es x) {A : Prop} : pVal true 4 (.agg ⟨es⟩) A ↔ A := by
  obtain ⟨v, rfl, h2, _⟩ := h; exact pVal_4 rfl rfl h2.one rfl
theorem RSto.shape {rd : Addr → Option Value} {es : List Value} {x : Sto} (h : RSto rd es x) : ∃ v, es = [.int .i64 x.1, .string x.2.1, v, .int .i64 x.2.2.2] := by obtain ⟨v, h1, _⟩ := h; exact ⟨v, h1⟩
theorem OSto.four {F : List Nat} {es : List Value} {x : Sto} (h : OSto w0 σ F es x) {A : Prop} : pVal true 4 (.agg ⟨es⟩) A ↔ A := RSto.four ((ok_sto w0).rel _ _ _ _ h)

theorem szStore {es : List Value} {x : Sto} {m : Int} {R : Value → Vw → Prop} (h : RSto (Av.get w0 σ) es x) (hm : 0 ≤ m ∧ m ≤ 9223372036854775807) (hR : R (.int .i64 (Av.left m (szSto x))) σ) : AC Tryd.prog w0 n_laws_szStore [.agg ⟨es⟩, .int .i64 m] σ R := by
  obtain ⟨gen, text, gs, next⟩ := x
  obtain ⟨v, rfl, hv, hg, ht, hn⟩ := h
  refine ac_laws_szStore ?_
  unfold vc_laws_szStore
  rw [pVal_4 rfl rfl hv.one rfl]
  simp only [cellOf_agg, List.getD_cons_zero, List.getD_cons_succ]
  rw [pLenS_s, pBin_sub (by simp only at ht; omega), pBin_lt, pIf_d]
  have low : m < (szSto (gen, text, gs, next) : Nat) → R (.int .i64 (-1)) σ := fun hlt => by rw [Av.left_low hlt] at hR; exact hR
  have hsz : szSto (gen, text, gs, next) = text.size + (gs.length + sumS gs) := rfl
  refine ⟨fun hlt => low (by omega), fun hge => ?_⟩
  refine szStringS hv (by omega) ?_
  rw [show left (m - (text.size : Int)) (gs.length + sumS gs) = Av.left (m - (text.size : Int)) (gs.length + sumS gs) from rfl, pBin_lt, pIf_d]
  refine ⟨fun hlt => low (by rw [Av.left_neg] at hlt; omega), fun hge2 => ?_⟩
  rw [Av.left_neg] at hge2
  rw [Av.left_in (by omega)]
  rw [Av.left_in (by omega)] at hR
  rw [show m - (text.size : Int) - ((gs.length + sumS gs : Nat) : Int) = m - ((szSto (gen, text, gs, next) : Nat) : Int) by omega]
  exact hR

theorem toStore {es : List Value} {x : Sto} {R : Value → Vw → Prop} (h : RSto (Av.get w0 σ) es x) (hb : x.2.2.1.length ≤ 1000000000000) (hR : ∀ es' F σ', Keeps σ σ' → OSto w0 σ' F es' x → (∀ b, b ∈ F → σ b = none) → R (.agg ⟨es'⟩) σ') : AC Tryd.prog w0 n_laws_toStore [.agg ⟨es⟩] σ R := by
  obtain ⟨gen, text, gs, next⟩ := x
  obtain ⟨v, rfl, hv, hg⟩ := h
  refine ac_laws_toStore ?_
  unfold vc_laws_toStore
  rw [pVal_4 rfl rfl hv.one rfl]
  simp only [cellOf_agg, List.getD_cons_zero, List.getD_cons_succ]
  rw [pVal1 rfl, pVal1 rfl]
  refine toStringS' hv hb fun v' F σ' hk ho hF => ?_
  rw [pVal1 (OSl.one' ho), pVal1 rfl, pVal_4 rfl rfl (OSl.one' ho) rfl]
  exact hR _ F σ' hk ⟨v', rfl, ho, hg⟩ hF

theorem eqStore {es es' : List Value} {x y : Sto} {R : Value → Vw → Prop} (h : RSto (Av.get w0 σ) es x) (h' : RSto (Av.get w0 σ) es' y) (hR : R (.bool (decide (x = y))) σ) : AC Tryd.prog w0 n_laws_eqStore [.agg ⟨es⟩, .agg ⟨es'⟩] σ R := by
  obtain ⟨gen, text, gs, next⟩ := x
  obtain ⟨gen', text', gs', next'⟩ := y
  obtain ⟨v, rfl, hv, _⟩ := h
  obtain ⟨v', rfl, hv', _⟩ := h'
  refine ac_laws_eqStore ?_
  unfold vc_laws_eqStore
  rw [pVal_4 rfl rfl hv.one rfl, pVal_4 rfl rfl hv'.one rfl]
  simp only [cellOf_agg, List.getD_cons_zero, List.getD_cons_succ]
  have no : ¬ ((gen, text, gs, next) : Sto) = (gen', text', gs', next') → R (.bool false) σ := fun h => by rw [decide_eq_false h] at hR; exact hR
  rw [pBin_ne, pIf_d]
  refine ⟨fun e => no (fun h => e (by simp at h; exact h.1)), fun e1 => ?_⟩
  rw [pBin_sne, pIf_d]
  refine ⟨fun e => no (fun h => e (by simp at h; exact h.2.1)), fun e2 => ?_⟩
  refine eqStringS hv hv' ?_
  rw [pUn_not, pIf_b]
  refine ⟨fun e => no (fun h => by simp at h e; exact e h.2.2.1), fun e3 => ?_⟩
  rw [pBin_ne, pIf_d]
  refine ⟨fun e => no (fun h => e (by simp at h; exact h.2.2.2)), fun e4 => ?_⟩
  have : ((gen, text, gs, next) : Sto) = (gen', text', gs', next') := by
    simp at e3
    rw [Decidable.not_not.1 e1, Decidable.not_not.1 e2, e3, Decidable.not_not.1 e4]
  rw [decide_eq_true this] at hR; exact hR

def mkSto (k : Nat) (x : Sto) : Sto := (x.1, x.2.1, mkTexts k x.2.2.1, x.2.2.2)
theorem markStore {F : List Nat} {es : List Value} {x : Sto} {k : Nat} (h : OSto w0 σ F es x) (hk : k + x.2.2.1.length ≤ 1000000000000) {R : Value → Vw → Prop}
    (hR : ∀ σ', KeepsBut F σ σ' → OSto w0 σ' F es (mkSto k x) → R (.int .i64 ((k + x.2.2.1.length : Nat) : Int)) σ') : AC Tryd.prog w0 n_laws_markStore [.agg ⟨es⟩, .int .i64 (k : Nat)] σ R := by
  have h0 := h
  obtain ⟨v, rfl, hv, hg⟩ := h
  refine ac_laws_markStore ?_
  unfold vc_laws_markStore
  rw [h0.four]
  exact markStringS hv hk fun σ' k1 o1 => hR σ' k1 ⟨v, rfl, o1, hg⟩
theorem heldStore {es : List Value} {x : Sto} {k : Nat} (h : RSto (Av.get w0 σ) es (mkSto k x)) (hk : k + x.2.2.1.length ≤ 1000000000000) {R : Value → Vw → Prop}
    (hR : ∀ σ', Keeps σ σ' → R (.int .i64 ((k + x.2.2.1.length : Nat) : Int)) σ') : AC Tryd.prog w0 n_laws_heldStore [.agg ⟨es⟩, .int .i64 (k : Nat)] σ R := by
  have h0 := h
  obtain ⟨v, rfl, hv, hg⟩ := h
  refine ac_laws_heldStore ?_
  unfold vc_laws_heldStore
  rw [h0.four]
  refine heldStringS hv hk fun σ' k1 => ?_
  rw [pBin_lt, pIf_d]
  exact ⟨fun h => by omega, fun _ => hR σ' k1⟩

theorem spec_l21In {n lo hi : Int} {R : Value → Vw → Prop} (hR : R (.bool (inB n lo hi)) σ) : AC Tryd.prog w0 n_spec_l21In [.int .i64 n, .int .i64 lo, .int .i64 hi] σ R := by
  refine ac_spec_l21In ?_
  unfold vc_spec_l21In
  rw [pBin_ge, pIf_d]
  refine ⟨fun h => ?_, fun h => ?_⟩
  · rw [pBin_le]
    have : inB n lo hi = decide (n ≤ hi) := by simp [inB, h]
    rw [this] at hR; exact hR
  · have : inB n lo hi = false := by simp [inB, h]
    rw [this] at hR; exact hR
theorem spec_l22Blocks {s : ByteArray} {R : Value → Vw → Prop} (hs : s.size ≤ 1000000000) (hR : R (.int .i64 (blkN s : Nat)) σ) : AC Tryd.prog w0 n_spec_l22Blocks [.string s] σ R := by
  refine ac_spec_l22Blocks ?_
  unfold vc_spec_l22Blocks
  have h1 := blk_le hs
  have e : ((blkN s : Nat) : Int) = 1 + (manyN s 63 : Nat) := by unfold blkN; omega
  refine spec_l22Many (size := 63) (by omega) (by omega) ?_
  rw [pBin_add (by omega), ← e]
  exact hR
theorem impl_groupBlocks {s : ByteArray} {R : Value → Vw → Prop} (hs : s.size ≤ 1000000000) (hR : R (.int .i64 (blkN s : Nat)) σ) : AC Tryd.prog w0 n_impl_groupBlocks [.int .i64 s.size] σ R := by
  refine ac_impl_groupBlocks ?_
  unfold vc_impl_groupBlocks
  have h1 := blk_le hs
  have e : ((blkN s : Nat) : Int) = 1 + (manyN s 63 : Nat) := by unfold blkN; omega
  refine impl_pieces' (size := 63) (by omega) (by omega) ?_
  rw [pBin_add (by omega), ← e]
  exact hR

theorem spec_l22Ok {es : List Value} {x : Sto} (h : RSto (Av.get w0 σ) es x) (hl : x.2.2.1.length ≤ 1000000000) {R : Value → Vw → Prop} (hR : R (.bool (stOk x)) σ) : AC Tryd.prog w0 n_spec_l22Ok [.agg ⟨es⟩] σ R := by
  obtain ⟨gen, text, gs, next⟩ := x
  obtain ⟨v, rfl, hv, hg, ht, hn⟩ := h
  simp only at hv hg ht hn hl
  refine ac_spec_l22Ok ?_
  unfold vc_spec_l22Ok
  rw [pVal_4 rfl rfl hv.one rfl]
  simp only [cellOf_agg, List.getD_cons_zero, List.getD_cons_succ]
  refine loop_rule (m := gs.length) (fun m l s => ∃ j : Nat, s = σ ∧ m + j = gs.length ∧ (∀ y, y ∈ gs.take j → y.size ≤ 600) ∧ l = [.bool false, .int .i64 (sumBy blkN (gs.take j) : Nat), .int .i64 (j : Nat), .int .i64 gen, .string text, v, .int .i64 next]) ?_ ⟨0, rfl, by omega, by simp, rfl⟩
  rintro m l s L ⟨j, rfl, hm, hj, rfl⟩ hL
  simp only [vget, List.getD_cons_zero, List.getD_cons_succ]
  have hsum := blk_sum hj
  rw [List.length_take] at hsum
  rw [hv.len, pBin_lt, pIf_d]
  refine ⟨fun hi => ?_, fun hi => ?_⟩
  · have hx := List.getElem?_eq_getElem (show j < gs.length by omega)
    generalize hxi : gs[j]'(by omega) = y at hx
    refine hv.at hx fun g hg => ?_
    obtain ⟨hg, hs⟩ := hg
    simp only [expl, List.cons.injEq, and_true] at hg
    rw [hg, pLenS_s, pBin_gt, pIf_d]
    refine ⟨fun hgt => ?_, fun hle => ?_⟩
    · rw [stOk_no (List.mem_of_getElem? hx) (by omega)] at hR; exact hR
    · have hb := blk_600 (s := y) (by omega)
      refine hv.at hx fun g' hg' => ?_
      obtain ⟨hg', _⟩ := hg'
      simp only [expl, List.cons.injEq, and_true] at hg'
      rw [hg']
      refine spec_l22Blocks (by omega) ?_
      rw [pBin_add (by omega), pBin_add (by omega)]
      refine hL _ _ (m - 1) (by omega) ⟨j + 1, rfl, by omega, mem_take_succ hx hj (by omega), ?_⟩
      rw [sumBy_take hx]; simp
  · have e : j = gs.length := by omega
    subst e
    rw [List.take_length] at hj ⊢
    rw [stOk_all hj] at hR
    refine spec_l21In ?_
    rw [pIf_b]
    refine ⟨fun h1 => ?_, fun h1 => by rw [h1] at hR; exact hR⟩
    rw [h1] at hR
    refine spec_l22TextOk ?_
    rw [pIf_b]
    refine ⟨fun h2 => ?_, fun h2 => by rw [h2] at hR; exact hR⟩
    rw [h2] at hR
    rw [pBin_eq, pIf_b]
    refine ⟨fun h3 => ?_, fun h3 => by rw [h3] at hR; exact hR⟩
    rw [h3] at hR
    rw [pBin_le]
    exact hR

theorem impl_storeOk {es : List Value} {x : Sto} (h : RSto (Av.get w0 σ) es x) (hl : x.2.2.1.length ≤ 1000000000) {R : Value → Vw → Prop} (hR : R (.bool (stOk x)) σ) : AC Tryd.prog w0 n_impl_storeOk [.agg ⟨es⟩] σ R := by
  obtain ⟨gen, text, gs, next⟩ := x
  obtain ⟨v, rfl, hv, hg, ht, hn⟩ := h
  simp only at hv hg ht hn hl
  refine ac_impl_storeOk ?_
  unfold vc_impl_storeOk
  rw [pVal_4 rfl rfl hv.one rfl]
  simp only [cellOf_agg, List.getD_cons_zero, List.getD_cons_succ]
  rw [hv.len]
  refine loop_rule (m := gs.length) (fun m l s => ∃ j : Nat, s = σ ∧ m + j = gs.length ∧ (∀ y, y ∈ gs.take j → y.size ≤ 600) ∧ l = [.bool false, .int .i64 (sumBy blkN (gs.take j) : Nat), v, .int .i64 (gs.length : Nat), .int .i64 (j : Nat), .int .i64 gen, .string text, v, .int .i64 next]) ?_ ⟨0, rfl, by omega, by simp, rfl⟩
  rintro m l s L ⟨j, rfl, hm, hj, rfl⟩ hL
  simp only [vget, List.getD_cons_zero, List.getD_cons_succ]
  have hsum := blk_sum hj
  rw [List.length_take] at hsum
  rw [pBin_lt, pIf_d]
  refine ⟨fun hi => ?_, fun hi => ?_⟩
  · have hx := List.getElem?_eq_getElem (show j < gs.length by omega)
    generalize hxi : gs[j]'(by omega) = y at hx
    refine hv.at hx fun g hg => ?_
    obtain ⟨hg, hs⟩ := hg
    simp only [expl, List.cons.injEq, and_true] at hg
    rw [hg, pLenS_s, pBin_gt, pIf_d]
    refine ⟨fun hgt => ?_, fun hle => ?_⟩
    · rw [stOk_no (List.mem_of_getElem? hx) (by omega)] at hR; exact hR
    · have hb := blk_600 (s := y) (by omega)
      rw [pLenS_s]
      refine impl_groupBlocks (by omega) ?_
      rw [pBin_add (by omega), pBin_add (by omega)]
      refine hL _ _ (m - 1) (by omega) ⟨j + 1, rfl, by omega, mem_take_succ hx hj (by omega), ?_⟩
      rw [sumBy_take hx]; simp
  · have e : j = gs.length := by omega
    subst e
    rw [List.take_length] at hj ⊢
    rw [stOk_all hj] at hR
    refine impl_within ?_
    rw [pIf_b]
    refine ⟨fun h1 => ?_, fun h1 => by rw [h1] at hR; exact hR⟩
    rw [h1] at hR
    have e1 : decide ((text.size : Int) ≤ 5760) = decide (text.size ≤ 5760) := by congr 1; apply propext; omega
    rw [pLenS_s, pBin_le, e1, pIf_b]
    refine ⟨fun h2 => ?_, fun h2 => by rw [h2] at hR; exact hR⟩
    rw [h2] at hR
    have e2 : decide (next = ((sumBy blkN gs : Nat) : Int)) = decide (((sumBy blkN gs : Nat) : Int) = next) := by congr 1; apply propext; exact eq_comm
    rw [pBin_eq, e2, pIf_b]
    refine ⟨fun h3 => ?_, fun h3 => by rw [h3] at hR; exact hR⟩
    rw [h3] at hR
    rw [pBin_le]
    exact hR

theorem copy_core {gen next : Int} {text : ByteArray} {v : Value} {gs : List ByteArray} (hv : RSl 1 RS (Av.get w0 σ) v gs) (hl : gs.length ≤ 1000000000) {R : Value → Vw → Prop}
    (hR : ∀ v' F σ', Keeps σ σ' → OAcc w0 t_string 1 OStr σ' F v' gs → (∀ b, b ∈ F → σ b = none) → R (.agg ⟨[.int .i64 gen, .string text, v', .int .i64 next]⟩) σ') :
    pNew w0 t_string [] σ (fun n0 s1 => pAppendS w0 t_string 1 16 (.slice (some (Addr.mk n0 0 none)) 0 0) v s1 (fun v2 s3 => pVal false 1 v2 (pVal true 4 (.agg ⟨[.int .i64 gen, .string text, v2, .int .i64 next]⟩) (R (.agg ⟨[.int .i64 gen, .string text, v2, .int .i64 next]⟩) s3)))) := by
  intro b h1 h2
  have ha := OAcc.new (w0 := w0) (σ := σ) (ety := t_string) (n := 1) (O := OStr) h1
  have kb : Keeps σ (σ.put b ⟨t_string, [], 0, (0, 0)⟩) := Keeps.put h2
  have hb0 : ∀ i, i ∈ [b] → σ i = none := fun i hi => by rw [List.mem_singleton.1 hi]; exact h2
  refine ha.all (ok_str w0) hv kb.le (fun es y hy => ⟨rfl, hy⟩) (by simp; omega) (by omega) fun v' F' σ' k1 o1 f1 => ?_
  rw [pVal1 (OSl.one' o1.osl), pVal_4 rfl rfl (OSl.one' o1.osl) rfl]
  exact hR v' F' σ' (k1.old kb hb0) (by simpa using o1) (fresh_in kb hb0 f1)
theorem spec_l22Copy {gen next : Int} {text : ByteArray} {v : Value} {gs : List ByteArray} (hv : RSl 1 RS (Av.get w0 σ) v gs) (hl : gs.length ≤ 1000000000) {R : Value → Vw → Prop}
    (hR : ∀ v' F σ', Keeps σ σ' → OAcc w0 t_string 1 OStr σ' F v' gs → (∀ b, b ∈ F → σ b = none) → R (.agg ⟨[.int .i64 gen, .string text, v', .int .i64 next]⟩) σ') : AC Tryd.prog w0 n_spec_l22Copy [.agg ⟨[.int .i64 gen, .string text, v, .int .i64 next]⟩] σ R := by
  refine ac_spec_l22Copy ?_
  unfold vc_spec_l22Copy
  rw [pVal_4 rfl rfl hv.one rfl]
  exact copy_core hv hl hR
theorem impl_cloneStore {gen next : Int} {text : ByteArray} {v : Value} {gs : List ByteArray} (hv : RSl 1 RS (Av.get w0 σ) v gs) (hl : gs.length ≤ 1000000000) {R : Value → Vw → Prop}
    (hR : ∀ v' F σ', Keeps σ σ' → OAcc w0 t_string 1 OStr σ' F v' gs → (∀ b, b ∈ F → σ b = none) → R (.agg ⟨[.int .i64 gen, .string text, v', .int .i64 next]⟩) σ') : AC Tryd.prog w0 n_impl_cloneStore [.agg ⟨[.int .i64 gen, .string text, v, .int .i64 next]⟩] σ R := by
  refine ac_impl_cloneStore ?_
  unfold vc_impl_cloneStore
  rw [pVal_4 rfl rfl hv.one rfl]
  exact copy_core hv hl hR
end
end Go.Proofs.YtkndffhcncmbjaaDoor

/- 'StoreAppend' and 'StoreSave' by either hand, and their laws. -/
set_option linter.unusedVariables false
set_option linter.unusedSimpArgs false
namespace Go.Proofs.YtkndffhcncmbjaaDoor
open Go Go.Av Go.RowKit

section
variable {w0 : World} {σ : Vw}

theorem none_at {σ s : Vw} (k : Keeps σ s) {i : Nat} (h : s i = none) : σ i = none := by
  cases hs : σ i with
  | none => rfl
  | some r => rw [k i r hs] at h; cases h
theorem nil_sto : OSto w0 σ [] [.int .i64 0, .string ⟨#[]⟩, .slice none 0 0, .int .i64 0] (0, ⟨#[]⟩, [], 0) :=
  ⟨_, rfl, ⟨by simp, by simp, .inl ⟨rfl, rfl, rfl⟩⟩, by unfold rng'; simp, by simp [ByteArray.size], by unfold rng'; simp⟩
theorem ghead_size {gen : Int} {k n : Nat} (hg : 0 ≤ gen ∧ gen ≤ 1000000) (hk : k ≤ 1000000) (hn : n ≤ 1000000) : (gheadB gen k n).size ≤ 1000000 := by
  unfold gheadB
  have h1 := (decN_size n).2
  have h2 := (decN_size k).2
  have h3 := (decN_size gen.toNat).2
  have e : decZ gen = decN gen.toNat := by unfold decZ; rw [if_neg (by omega)]
  simp only [ByteArray.size_append, e]
  show 2 + _ + 1 + _ + 1 + _ ≤ _
  omega

theorem spec_ghead {gen : Int} {k n : Nat} {K : Value → Vw → Prop} (hg : 0 ≤ gen ∧ gen ≤ 1000000) (hk : k ≤ 1000000) (hn : n ≤ 1000000) (hK : ∀ s, Keeps σ s → K (.string (gheadB gen k n)) s) :
    AC Tryd.prog w0 n_spec_l22Dec [.int .i64 gen] σ (fun v63 s64 => pBin Tryd.prog 9 BinOp.add (Value.string ({ data := #[72, 32] })) v63 (fun v65 => pBin Tryd.prog 9 BinOp.add v65 (Value.string ({ data := #[32] })) (fun v66 => AC Tryd.prog w0 n_spec_l22Dec [.int .i64 (k : Nat)] s64 (fun v67 s68 => pBin Tryd.prog 9 BinOp.add v66 v67 (fun v69 => pBin Tryd.prog 9 BinOp.add v69 (Value.string ({ data := #[32] })) (fun v70 => AC Tryd.prog w0 n_spec_l22Dec [.int .i64 (n : Nat)] s68 (fun v71 s72 => pBin Tryd.prog 9 BinOp.add v70 v71 (fun v73 => K v73 s72)))))))) := by
  have h1 := (decN_size n).2
  have h2 := (decN_size k).2
  have h3 := decZ_size (n := gen) (by omega)
  refine spec_l22Dec (by omega) fun s1 k1 => ?_
  rw [pBin_cat (by show 2 + _ ≤ _; omega), pBin_cat (by rw [ByteArray.size_append]; show 2 + _ + 1 ≤ _; omega)]
  refine spec_l22Dec_nat _ (by omega) fun s2 k2 => ?_
  rw [pBin_cat (by simp only [ByteArray.size_append]; show 2 + _ + 1 + _ ≤ _; omega), pBin_cat (by simp only [ByteArray.size_append]; show 2 + _ + 1 + _ + 1 ≤ _; omega)]
  refine spec_l22Dec_nat _ (by omega) fun s3 k3 => ?_
  rw [pBin_cat (by simp only [ByteArray.size_append]; show 2 + _ + 1 + _ + 1 + _ ≤ _; omega)]
  exact hK s3 ((k1.trans k2).trans k3)
theorem impl_groupHead (tab : Tab w0) {gen : Int} {k n : Nat} {R : Value → Vw → Prop} (hg : 0 ≤ gen ∧ gen ≤ 1000000) (hk : k ≤ 1000000) (hn : n ≤ 1000000) (hR : R (.string (gheadB gen k n)) σ) : AC Tryd.prog w0 n_impl_groupHead [.int .i64 gen, .int .i64 (k : Nat), .int .i64 (n : Nat)] σ R := by
  refine ac_impl_groupHead ?_
  unfold vc_impl_groupHead
  have h1 := (decN_size n).2
  have h2 := (decN_size k).2
  have h3 := decZ_size (n := gen) (by omega)
  refine strconv_Itoa tab (by omega) ?_
  rw [pBin_cat (by show 2 + _ ≤ _; omega), pBin_cat (by rw [ByteArray.size_append]; show 2 + _ + 1 ≤ _; omega)]
  refine strconv_Itoa tab (by omega) ?_
  rw [decZ_nat, pBin_cat (by simp only [ByteArray.size_append]; show 2 + _ + 1 + _ ≤ _; omega), pBin_cat (by simp only [ByteArray.size_append]; show 2 + _ + 1 + _ + 1 ≤ _; omega)]
  refine strconv_Itoa tab (by omega) ?_
  rw [decZ_nat, pBin_cat (by simp only [ByteArray.size_append]; show 2 + _ + 1 + _ + 1 + _ ≤ _; omega)]
  exact hR

theorem str_app {F : List Nat} {v : Value} {xs : List ByteArray} {g : ByteArray} (ho : OAcc w0 t_string 1 OStr σ F v xs) (hg : g.size ≤ 9223372036854775807) (hl : xs.length ≤ 1000000) {K : Value → Vw → Prop}
    (hK : ∀ v' F' σ', KeepsBut F σ σ' → OAcc w0 t_string 1 OStr σ' F' v' (xs ++ [g]) → (∀ i, i ∈ F' → i ∈ F ∨ σ i = none) → K v' σ') :
    pVal false 1 (.string g) (allOne [.string g] ∧ pAppend w0 t_string 1 16 v 1 [.string g] σ K) := by
  rw [pVal1 rfl]
  refine ho.one (ok_str w0) (f := []) (y := g) ⟨rfl, rfl, hg⟩ (by simp) (by omega) (by omega) fun v' F' σ' k o f => hK v' F' σ' k o fun i hi => ?_
  rcases f i hi with h | h | h
  · exact .inl h
  · cases h
  · exact .inr h

/-- What a caller learns of the three results. -/
abbrev Out (w0 : World) (σ : Vw) (y : List Rw × Sto × Int) (R : Value → Vw → Prop) : Prop :=
  ∀ v es' F G σ', Keeps σ σ' → OSl w0 2 ORaw σ' F v y.1 → OSto w0 σ' G es' y.2.1 → (∀ b, b ∈ F → σ b = none) → (∀ b, b ∈ G → σ b = none) → (∀ b, b ∈ F → b ∉ G) → R (.tuple ⟨[v, .agg ⟨es'⟩, .int .i64 y.2.2]⟩) σ'

/-- Refused: nothing to write, and a copy. -/
theorem out_copy {b : Nat} {x : Sto} {c : Int} {R : Value → Vw → Prop} (hR : Out w0 σ ([], x, c) R) (h1 : w0.heap.size ≤ b) (h2 : σ b = none) (hx : rng' x.1 ∧ x.2.1.size ≤ 9223372036854775807 ∧ rng' x.2.2.2)
    {v' : Value} {F : List Nat} {s : Vw} (k : Keeps (σ.put b ⟨t_impl_Raw, [], 0, (0, 0)⟩) s) (o : OAcc w0 t_string 1 OStr s F v' x.2.2.1) (f : ∀ i, i ∈ F → (σ.put b ⟨t_impl_Raw, [], 0, (0, 0)⟩) i = none) :
    pVal true 4 (.agg ⟨[.int .i64 x.1, .string x.2.1, v', .int .i64 x.2.2.2]⟩) (R (.tuple ⟨[.slice (some (Addr.mk b 0 none)) 0 0, .agg ⟨[.int .i64 x.1, .string x.2.1, v', .int .i64 x.2.2.2]⟩, .int .i64 c]⟩) s) := by
  rw [pVal_4 rfl rfl (OSl.one' o.osl) rfl]
  have kb : Keeps σ (σ.put b ⟨t_impl_Raw, [], 0, (0, 0)⟩) := Keeps.put h2
  have n0 := raw_new (σ := σ) (ety := t_impl_Raw) h1
  refine hR _ _ [b] F s (kb.trans k) (n0.frame (ok_raw w0) (k.but_at fun i hi => (n0.dom (ok_raw w0) i hi).2)) ⟨v', rfl, o.osl, hx⟩ (fun i hi => by rw [List.mem_singleton.1 hi]; exact h2) (fun i hi => none_at kb (f i hi)) fun i hi hi' => ?_
  exact (n0.dom (ok_raw w0) i hi).2 (f i hi')

theorem spec_StoreAppend {es : List Value} {x : Sto} {g : ByteArray} (h : RSto (Av.get w0 σ) es x) (hl : x.2.2.1.length ≤ 1000000000) (hs : g.size ≤ 1000000000) {R : Value → Vw → Prop} (hR : Out w0 σ (appR x g) R) : AC Tryd.prog w0 n_spec_StoreAppend [.agg ⟨es⟩, .string g] σ R := by
  have h0 := h
  obtain ⟨gen, text, gs, next⟩ := x
  obtain ⟨v, rfl, hv, hx⟩ := h
  simp only at hv hx hl
  refine ac_spec_StoreAppend ?_
  unfold vc_spec_StoreAppend
  rw [pVal_4 rfl rfl hv.one rfl]
  simp only [cellOf_agg, List.getD_cons_zero, List.getD_cons_succ]
  intro b h1 h2
  have kb : Keeps σ (σ.put b ⟨t_impl_Raw, [], 0, (0, 0)⟩) := Keeps.put h2
  have hb0 : ∀ i, i ∈ [b] → σ i = none := fun i hi => by rw [List.mem_singleton.1 hi]; exact h2
  refine spec_l22Ok (mono_sto kb.le h0) hl ?_
  rw [pUn_not, pIf_b]
  refine ⟨fun hno => ?_, fun hyes => ?_⟩
  · have e : appR (gen, text, gs, next) g = ([], (0, ⟨#[]⟩, [], 0), 1) := by simp at hno; simp [appR, hno]
    rw [e] at hR
    rw [pVal_4 rfl rfl rfl rfl]
    exact hR _ _ [b] [] _ kb (raw_new h1) nil_sto hb0 (by simp) (by simp)
  have hst : stOk (gen, text, gs, next) = true := by simpa using hyes
  obtain ⟨ho1, ho2, ho3, ho4, ho5⟩ := stOk_of hst
  simp only at ho1 ho2 ho3 ho4 ho5
  have hvb := hv.mono kb.le fun _ _ h => h
  rw [pLenS_s, pBin_gt, pIf_d]
  refine ⟨fun hbig => ?_, fun hbig => ?_⟩
  · have e : appR (gen, text, gs, next) g = ([], (gen, text, gs, next), 6) := by simp [appR, hst, show 600 < g.size by omega]
    rw [e] at hR
    refine spec_l22Copy hvb (by omega) fun v' F s k o f => ?_
    exact out_copy hR h1 h2 hx k o f
  have h10 := many63 (s := g) (by omega)
  have hbk := blk_600 (s := g) (by omega)
  have hbe : ((blkN g : Nat) : Int) = 1 + (manyN g 63 : Nat) := by unfold blkN; omega
  refine spec_l22Blocks (by omega) ?_
  rw [pBin_add (by omega), pBin_gt, pIf_d]
  refine ⟨fun hfull => ?_, fun hfull => ?_⟩
  · have e : appR (gen, text, gs, next) g = ([], (gen, text, gs, next), 4) := by simp [appR, hst, show ¬ 600 < g.size by omega, hfull]
    rw [e] at hR
    refine spec_l22Copy hvb (by omega) fun v' F s k o f => ?_
    exact out_copy hR h1 h2 hx k o f
  have e : appR (gen, text, gs, next) g = (apP next g (manyN g 63) ++ [(2 + next, gheadB gen gs.length g.size)], (gen, text, gs ++ [g], next + (blkN g : Nat)), 0) := by simp [appR, hst, show ¬ 600 < g.size by omega, hfull]
  rw [e] at hR
  intro c h3 h4
  have kc : Keeps σ ((σ.put b ⟨t_impl_Raw, [], 0, (0, 0)⟩).put c ⟨t_impl_Raw, [], 0, (0, 0)⟩) := kb.trans (Keeps.put h4)
  have new := OAcc.new (w0 := w0) (σ := σ.put b ⟨t_impl_Raw, [], 0, (0, 0)⟩) (ety := t_impl_Raw) (n := 2) (O := ORaw) h3
  refine loop_rule (m := manyN g 63) (fun m l s => ∃ (i : Nat) (v' : Value) (F : List Nat), m + i = manyN g 63 ∧ Keeps σ s ∧ (∀ j, j ∈ F → σ j = none) ∧ OAcc w0 t_impl_Raw 2 ORaw s F v' (apP next g i) ∧ l = [.string g, v', .int .i64 (i : Nat), .int .i64 gen, .string text, v, .int .i64 next, .int .i64 0, .string ⟨#[]⟩, .slice none 0 0, .int .i64 0]) ?_
    ⟨0, _, [c], by omega, kc, (fun j hj => by rw [List.mem_singleton.1 hj]; exact none_at kb h4), by simpa [apP] using new, rfl⟩
  rintro m l s L ⟨i, v', F, hm, ks, hF, ho, rfl⟩ hL
  simp only [vget, List.getD_cons_zero, List.getD_cons_succ]
  refine spec_l22Blocks (by omega) ?_
  rw [pBin_sub (by omega), pBin_lt, pIf_d]
  refine ⟨fun hi => ?_, fun hi => ?_⟩
  · rw [pBin_add (by omega), pBin_add (by omega), pBin_add (by omega)]
    refine spec_l22Piece (size := 63) (by omega) (by omega) ((lt_many (by omega)).1 (by omega)) ?_
    have hps := piece_size g i 63
    rw [pBin_cat (by show 1 + _ ≤ _; omega)]
    refine raw_app ho (by unfold rng'; omega) (by rw [ByteArray.size_append]; show 1 + _ ≤ _; omega) (by rw [apP_len]; omega) fun v2 F2 s2 k2 o2 f2 => ?_
    rw [pBin_add (by omega)]
    rw [← apP_succ] at o2
    exact hL _ _ (m - 1) (by omega) ⟨i + 1, v2, F2, by omega, k2.old ks hF, fresh_in ks hF f2, o2, by simp⟩
  · have e : i = manyN g 63 := by omega
    subst e
    show pBin Tryd.prog 3 .add (.int .i64 2) (.int .i64 next) _
    rw [pBin_add (by omega), hv.len, pLenS_s]
    refine spec_ghead (by omega) (by omega) (by omega) fun s1 k1 => ?_
    have ho1' := ho.frame (ok_raw w0) (k1.but_at fun b hb => (ho.dom (ok_raw w0) b hb).2)
    have hgs := ghead_size (gen := gen) (k := gs.length) (n := g.size) (by omega) (by omega) (by omega)
    refine raw_app ho1' (by unfold rng'; omega) (by omega) (by rw [apP_len]; omega) fun v2 F2 s2 k2 o2 f2 => ?_
    have ks1 := ks.trans k1
    have ks2 := k2.old ks1 hF
    have hF2 := fresh_in ks1 hF f2
    refine spec_l22Copy (hv.mono ks2.le fun _ _ h => h) (by omega) fun v3 F3 s3 k3 o3 f3 => ?_
    rw [pVal_4 rfl rfl (OSl.one' o3.osl) rfl]
    simp only [cellOf_agg, List.getD_cons_zero, List.getD_cons_succ]
    refine str_app o3 (by omega) (by omega) fun v4 F4 s4 k4 o4 f4 => ?_
    rw [pVal1 (OSl.one' o4.osl)]
    refine spec_l22Blocks (by omega) ?_
    rw [pBin_add (by omega), pVal1 rfl, pVal_4 rfl rfl (OSl.one' o4.osl) rfl]
    have ks3 := ks2.trans k3
    have hF3 : ∀ i, i ∈ F3 → σ i = none := fun i hi => none_at ks2 (f3 i hi)
    have p3 := o2.frame (ok_raw w0) (k3.but_at fun b hb => (o2.dom (ok_raw w0) b hb).2)
    have p4 := p3.frame (ok_raw w0) (k4.at (fun b hb => (p3.dom (ok_raw w0) b hb).2) fun b hb hb' => (o2.dom (ok_raw w0) b hb).2 (f3 b hb'))
    refine hR v2 _ F2 F4 s4 (k4.old ks3 hF3) p4.osl ⟨v4, rfl, o4.osl, hx.1, hx.2.1, ?_⟩ hF2 (fresh_in ks3 hF3 f4) fun i hi hi' => ?_
    · show rng' (next + (blkN g : Nat)); unfold rng'; omega
    · rcases f4 i hi' with h | h
      · exact (o2.dom (ok_raw w0) i hi).2 (f3 i h)
      · exact (p3.dom (ok_raw w0) i hi).2 h

theorem impl_StoreAppend (tab : Tab w0) {es : List Value} {x : Sto} {g : ByteArray} (h : RSto (Av.get w0 σ) es x) (hl : x.2.2.1.length ≤ 1000000000) (hs : g.size ≤ 1000000000) {R : Value → Vw → Prop} (hR : Out w0 σ (appR x g) R) : AC Tryd.prog w0 n_impl_StoreAppend [.agg ⟨es⟩, .string g] σ R := by
  have h0 := h
  obtain ⟨gen, text, gs, next⟩ := x
  obtain ⟨v, rfl, hv, hx⟩ := h
  simp only at hv hx hl
  refine ac_impl_StoreAppend ?_
  unfold vc_impl_StoreAppend
  rw [pVal_4 rfl rfl hv.one rfl]
  simp only [cellOf_agg, List.getD_cons_zero, List.getD_cons_succ]
  intro b h1 h2
  have kb : Keeps σ (σ.put b ⟨t_impl_Raw, [], 0, (0, 0)⟩) := Keeps.put h2
  have hb0 : ∀ i, i ∈ [b] → σ i = none := fun i hi => by rw [List.mem_singleton.1 hi]; exact h2
  refine impl_storeOk (mono_sto kb.le h0) hl ?_
  rw [pUn_not, pIf_b]
  refine ⟨fun hno => ?_, fun hyes => ?_⟩
  · have e : appR (gen, text, gs, next) g = ([], (0, ⟨#[]⟩, [], 0), 1) := by simp at hno; simp [appR, hno]
    rw [e] at hR
    rw [pVal_4 rfl rfl rfl rfl]
    exact hR _ _ [b] [] _ kb (raw_new h1) nil_sto hb0 (by simp) (by simp)
  have hst : stOk (gen, text, gs, next) = true := by simpa using hyes
  obtain ⟨ho1, ho2, ho3, ho4, ho5⟩ := stOk_of hst
  simp only at ho1 ho2 ho3 ho4 ho5
  have hvb := hv.mono kb.le fun _ _ h => h
  refine impl_cloneStore hvb (by omega) fun vc Fc sc kc oc fc => ?_
  rw [pVal_4 rfl rfl (OSl.one' oc.osl) rfl]
  simp only [cellOf_agg, List.getD_cons_zero, List.getD_cons_succ]
  rw [pLenS_s, pBin_gt, pIf_d]
  refine ⟨fun hbig => ?_, fun hbig => ?_⟩
  · have e : appR (gen, text, gs, next) g = ([], (gen, text, gs, next), 6) := by simp [appR, hst, show 600 < g.size by omega]
    rw [e] at hR
    exact out_copy hR h1 h2 hx kc oc fc
  have h10 := many63 (s := g) (by omega)
  have hbk := blk_600 (s := g) (by omega)
  have hbe : ((blkN g : Nat) : Int) = 1 + (manyN g 63 : Nat) := by unfold blkN; omega
  rw [pLenS_s]
  refine impl_groupBlocks (by omega) ?_
  rw [pBin_add (by omega), pBin_gt, pIf_d]
  refine ⟨fun hfull => ?_, fun hfull => ?_⟩
  · have e : appR (gen, text, gs, next) g = ([], (gen, text, gs, next), 4) := by simp [appR, hst, show ¬ 600 < g.size by omega, hfull]
    rw [e] at hR
    exact out_copy hR h1 h2 hx kc oc fc
  have e : appR (gen, text, gs, next) g = (apP next g (manyN g 63) ++ [(2 + next, gheadB gen gs.length g.size)], (gen, text, gs ++ [g], next + (blkN g : Nat)), 0) := by simp [appR, hst, show ¬ 600 < g.size by omega, hfull]
  rw [e] at hR
  rw [pBin_add (by omega), pLenS_s]
  refine impl_pieces' (size := 63) (by omega) (by omega) ?_
  have new := OAcc.new (w0 := w0) (σ := σ) (ety := t_impl_Raw) (n := 2) (O := ORaw) h1
  have newc := new.frame (ok_raw w0) (kc.but_at fun b hb => (new.dom (ok_raw w0) b hb).2)
  have kbc := kb.trans kc
  have hFc : ∀ i, i ∈ Fc → σ i = none := fun i hi => none_at kb (fc i hi)
  refine loop_rule (m := manyN g 63) (fun m l s => ∃ (i : Nat) (v' : Value) (F : List Nat), m + i = manyN g 63 ∧ Keeps σ s ∧ (∀ j, j ∈ F → σ j = none) ∧ OAcc w0 t_impl_Raw 2 ORaw s F v' (apP next g i) ∧ OAcc w0 t_string 1 OStr s Fc vc gs ∧ (∀ j, j ∈ Fc → j ∉ F) ∧ l = [.string g, v', .int .i64 (2 + next), .int .i64 (manyN g 63 : Nat), .int .i64 (i : Nat), .int .i64 gen, .string text, v, .int .i64 next, .int .i64 0, .string ⟨#[]⟩, .slice none 0 0, .int .i64 0, .int .i64 gen, .string text, vc, .int .i64 next]) ?_
    ⟨0, _, [b], by omega, kbc, hb0, by simpa [apP] using newc, oc, (fun j hj hj' => (new.dom (ok_raw w0) j hj').2 (fc j hj)), rfl⟩
  rintro m l s L ⟨i, v', F, hm, ks, hF, ho, hoc, hd, rfl⟩ hL
  simp only [vget, List.getD_cons_zero, List.getD_cons_succ]
  rw [pBin_lt, pIf_d]
  refine ⟨fun hi => ?_, fun hi => ?_⟩
  · have hlt := (lt_many (s := g) (size := 63) (i := i) (by omega)).1 (by omega)
    rw [pBin_add (by omega), pBin_mul (by omega), pLenS_s, pMin_s, pBin_add (by omega), pBin_add (by omega), pBin_mul (by omega)]
    refine pSliceStr_s (l := (i : Int) * 63) (h := min (((i : Int) + 1) * 63) g.size) rfl rfl (by omega) ?_
    have hp : g.extract ((i : Int) * 63).toNat (min (((i : Int) + 1) * 63) g.size).toNat = pieceB g i 63 := by
      unfold pieceB
      congr 1 <;> omega
    rw [hp]
    have hps := piece_size g i 63
    rw [pBin_cat (by show 1 + _ ≤ _; omega)]
    refine raw_app ho (by unfold rng'; omega) (by rw [ByteArray.size_append]; show 1 + _ ≤ _; omega) (by rw [apP_len]; omega) fun v2 F2 s2 k2 o2 f2 => ?_
    rw [pBin_add (by omega)]
    rw [← apP_succ] at o2
    refine hL _ _ (m - 1) (by omega) ⟨i + 1, v2, F2, by omega, k2.old ks hF, fresh_in ks hF f2, o2, hoc.frame (ok_str w0) (k2.at (fun b hb => (hoc.dom (ok_str w0) b hb).2) hd), fun j hj hj' => ?_, by simp⟩
    rcases f2 j hj' with h | h
    · exact hd j hj h
    · exact (hoc.dom (ok_str w0) j hj).2 h
  · have e : i = manyN g 63 := by omega
    subst e
    show pLen v _
    rw [hv.len, pLenS_s]
    refine impl_groupHead tab (by omega) (by omega) (by omega) ?_
    have hgs := ghead_size (gen := gen) (k := gs.length) (n := g.size) (by omega) (by omega) (by omega)
    refine raw_app ho (by unfold rng'; omega) (by omega) (by rw [apP_len]; omega) fun v2 F2 s2 k2 o2 f2 => ?_
    have ks2 := k2.old ks hF
    have hF2 := fresh_in ks hF f2
    have hd2 : ∀ j, j ∈ Fc → j ∉ F2 := fun j hj hj' => by
      rcases f2 j hj' with h | h
      · exact hd j hj h
      · exact (hoc.dom (ok_str w0) j hj).2 h
    have o3 := hoc.frame (ok_str w0) (k2.at (fun b hb => (hoc.dom (ok_str w0) b hb).2) hd)
    refine str_app o3 (by omega) (by omega) fun v4 F4 s4 k4 o4 f4 => ?_
    rw [pVal1 (OSl.one' o4.osl), pLenS_s]
    refine impl_groupBlocks (by omega) ?_
    rw [pBin_add (by omega), pVal1 rfl, pVal_4 rfl rfl (OSl.one' o4.osl) rfl]
    have p4 := o2.frame (ok_raw w0) (k4.at (fun b hb => (o2.dom (ok_raw w0) b hb).2) fun b hb hb' => hd2 b hb' hb)
    refine hR v2 _ F2 F4 s4 (k4.old ks2 hFc) p4.osl ⟨v4, rfl, o4.osl, hx.1, hx.2.1, ?_⟩ hF2 (fresh_in ks2 hFc f4) fun i hi hi' => ?_
    · show rng' (next + (blkN g : Nat)); unfold rng'; omega
    · rcases f4 i hi' with h | h
      · exact hd2 i h hi
      · exact (o2.dom (ok_raw w0) i hi).2 h

theorem spec_StoreSave {es : List Value} {x : Sto} {t : ByteArray} (h : RSto (Av.get w0 σ) es x) (hl : x.2.2.1.length ≤ 1000000000) (hs : t.size ≤ 1000000000) {R : Value → Vw → Prop} (hR : Out w0 σ (saveR x t) R) : AC Tryd.prog w0 n_spec_StoreSave [.agg ⟨es⟩, .string t] σ R := by
  have h0 := h
  obtain ⟨gen, text, gs, next⟩ := x
  obtain ⟨v, rfl, hv, hx⟩ := h
  simp only at hv hx hl
  refine ac_spec_StoreSave ?_
  unfold vc_spec_StoreSave
  rw [pVal_4 rfl rfl hv.one rfl]
  simp only [cellOf_agg, List.getD_cons_zero, List.getD_cons_succ]
  intro b h1 h2
  have kb : Keeps σ (σ.put b ⟨t_impl_Raw, [], 0, (0, 0)⟩) := Keeps.put h2
  have hb0 : ∀ i, i ∈ [b] → σ i = none := fun i hi => by rw [List.mem_singleton.1 hi]; exact h2
  refine spec_l22Ok (mono_sto kb.le h0) hl ?_
  rw [pUn_not, pIf_b]
  refine ⟨fun hno => ?_, fun hyes => ?_⟩
  · have e : saveR (gen, text, gs, next) t = ([], (0, ⟨#[]⟩, [], 0), 1) := by simp at hno; simp [saveR, hno]
    rw [e] at hR
    rw [pVal_4 rfl rfl rfl rfl]
    exact hR _ _ [b] [] _ kb (raw_new h1) nil_sto hb0 (by simp) (by simp)
  have hst : stOk (gen, text, gs, next) = true := by simpa using hyes
  obtain ⟨ho1, ho2, ho3, ho4, ho5⟩ := stOk_of hst
  simp only at ho1 ho2 ho3 ho4 ho5
  have hvb := hv.mono kb.le fun _ _ h => h
  refine spec_l22TextOk ?_
  rw [pUn_not, pIf_b]
  refine ⟨fun hbig => ?_, fun hbig => ?_⟩
  · have e : saveR (gen, text, gs, next) t = ([], (gen, text, gs, next), 4) := by simp at hbig; simp [saveR, hst, hbig]
    rw [e] at hR
    refine spec_l22Copy hvb (by omega) fun v' F s k o f => ?_
    exact out_copy hR h1 h2 hx k o f
  have hsm : ¬ 5760 < t.size := by simp at hbig; omega
  rw [pBin_ge, pIf_d]
  refine ⟨fun hfull => ?_, fun hfull => ?_⟩
  · have e : saveR (gen, text, gs, next) t = ([], (gen, text, gs, next), 5) := by simp [saveR, hst, hsm, hfull]
    rw [e] at hR
    refine spec_l22Copy hvb (by omega) fun v' F s k o f => ?_
    exact out_copy hR h1 h2 hx k o f
  have e : saveR (gen, text, gs, next) t = (savedR (gen + 1) t, (gen + 1, t, [], 0), 0) := by simp only [saveR, hst]; rw [if_neg (by simp), if_neg hsm, if_neg hfull]
  rw [e] at hR
  rw [pBin_add (by omega), pBin_add (by omega), pVal1 rfl, pVal1 rfl]
  refine spec_l22Saved (by omega) (by omega) fun v2 F2 s2 k2 o2 f2 => ?_
  rw [pVal_4 rfl rfl rfl rfl]
  exact hR v2 _ F2 [] s2 (kb.trans k2) o2.osl ⟨_, rfl, ⟨by simp, by simp, .inl ⟨rfl, rfl, rfl⟩⟩, by show rng' (gen + 1); unfold rng'; omega, by show t.size ≤ _; omega, by show rng' 0; unfold rng'; simp⟩ (fun i hi => none_at kb (f2 i hi)) (by simp) (by simp)

theorem impl_StoreSave (tab : Tab w0) {es : List Value} {x : Sto} {t : ByteArray} (h : RSto (Av.get w0 σ) es x) (hl : x.2.2.1.length ≤ 1000000000) (hs : t.size ≤ 1000000000) {R : Value → Vw → Prop} (hR : Out w0 σ (saveR x t) R) : AC Tryd.prog w0 n_impl_StoreSave [.agg ⟨es⟩, .string t] σ R := by
  have h0 := h
  obtain ⟨gen, text, gs, next⟩ := x
  obtain ⟨v, rfl, hv, hx⟩ := h
  simp only at hv hx hl
  refine ac_impl_StoreSave ?_
  unfold vc_impl_StoreSave
  rw [pVal_4 rfl rfl hv.one rfl]
  simp only [cellOf_agg, List.getD_cons_zero, List.getD_cons_succ]
  intro b h1 h2
  have kb : Keeps σ (σ.put b ⟨t_impl_Raw, [], 0, (0, 0)⟩) := Keeps.put h2
  have hb0 : ∀ i, i ∈ [b] → σ i = none := fun i hi => by rw [List.mem_singleton.1 hi]; exact h2
  refine impl_storeOk (mono_sto kb.le h0) hl ?_
  rw [pUn_not, pIf_b]
  refine ⟨fun hno => ?_, fun hyes => ?_⟩
  · have e : saveR (gen, text, gs, next) t = ([], (0, ⟨#[]⟩, [], 0), 1) := by simp at hno; simp [saveR, hno]
    rw [e] at hR
    rw [pVal_4 rfl rfl rfl rfl]
    exact hR _ _ [b] [] _ kb (raw_new h1) nil_sto hb0 (by simp) (by simp)
  have hst : stOk (gen, text, gs, next) = true := by simpa using hyes
  obtain ⟨ho1, ho2, ho3, ho4, ho5⟩ := stOk_of hst
  simp only at ho1 ho2 ho3 ho4 ho5
  have hvb := hv.mono kb.le fun _ _ h => h
  rw [pLenS_s, pBin_gt, pIf_d]
  refine ⟨fun hbig => ?_, fun hbig => ?_⟩
  · have e : saveR (gen, text, gs, next) t = ([], (gen, text, gs, next), 4) := by simp [saveR, hst, show 5760 < t.size by omega]
    rw [e] at hR
    refine impl_cloneStore hvb (by omega) fun v' F s k o f => ?_
    exact out_copy hR h1 h2 hx k o f
  have hsm : ¬ 5760 < t.size := by omega
  rw [pBin_eq, pIf_d]
  refine ⟨fun hfull => ?_, fun hfull => ?_⟩
  · have e : saveR (gen, text, gs, next) t = ([], (gen, text, gs, next), 5) := by simp only [saveR, hst]; rw [if_neg (by simp), if_neg hsm, if_pos (by omega)]
    rw [e] at hR
    refine impl_cloneStore hvb (by omega) fun v' F s k o f => ?_
    exact out_copy hR h1 h2 hx k o f
  have e : saveR (gen, text, gs, next) t = (savedR (gen + 1) t, (gen + 1, t, [], 0), 0) := by simp only [saveR, hst]; rw [if_neg (by simp), if_neg hsm, if_neg (by omega)]
  rw [e] at hR
  rw [pBin_add (by omega), pBin_add (by omega)]
  have hres : rng' (gen + 1) ∧ t.size ≤ 9223372036854775807 ∧ rng' 0 := ⟨by unfold rng'; omega, by omega, by unfold rng'; simp⟩
  have str_new : ∀ {s : Vw} {c : Nat}, w0.heap.size ≤ c → OAcc w0 t_string 1 OStr (s.put c ⟨t_string, [], 0, (0, 0)⟩) [c] (.slice (some ⟨c, 0, none⟩) 0 0) [] := fun hc => OAcc.new hc
  refine ⟨?_, ?_⟩
  · refine impl_checkpoint tab (by omega) (by omega) fun v2 F2 s2 k2 o2 f2 => ?_
    intro c h3 h4
    have kc : Keeps s2 (s2.put c ⟨t_string, [], 0, (0, 0)⟩) := Keeps.put h4
    rw [pVal1 rfl, pVal1 rfl, pVal1 rfl, pVal1 rfl, pVal_4 rfl rfl rfl rfl]
    have p2 := o2.frame (ok_raw w0) (kc.but_at fun b hb => (o2.dom (ok_raw w0) b hb).2)
    refine hR v2 _ F2 [c] _ ((kb.trans k2).trans kc) p2.osl ⟨_, rfl, (str_new h3).osl, hres⟩ (fun i hi => none_at kb (f2 i hi)) (fun i hi => by rw [List.mem_singleton.1 hi]; exact none_at (kb.trans k2) h4) fun i hi hi' => ?_
    rw [List.mem_singleton.1 hi'] at hi
    exact (o2.dom (ok_raw w0) c hi).2 h4
  · intro c h3 h4
    have kc : Keeps (σ.put b ⟨t_impl_Raw, [], 0, (0, 0)⟩) ((σ.put b ⟨t_impl_Raw, [], 0, (0, 0)⟩).put c ⟨t_string, [], 0, (0, 0)⟩) := Keeps.put h4
    rw [pVal1 rfl, pVal1 rfl, pVal1 rfl, pVal1 rfl]
    refine impl_checkpoint tab (by omega) (by omega) fun v2 F2 s2 k2 o2 f2 => ?_
    rw [pVal_4 rfl rfl rfl rfl]
    have n1 := (str_new (s := σ.put b ⟨t_impl_Raw, [], 0, (0, 0)⟩) h3)
    have n2 := n1.frame (ok_str w0) (k2.but_at fun b hb => (n1.dom (ok_str w0) b hb).2)
    refine hR v2 _ F2 [c] _ ((kb.trans kc).trans k2) o2.osl ⟨_, rfl, n2.osl, hres⟩ (fun i hi => none_at (kb.trans kc) (f2 i hi)) (fun i hi => by rw [List.mem_singleton.1 hi]; exact none_at kb h4) fun i hi hi' => ?_
    exact (n1.dom (ok_str w0) i hi').2 (f2 i hi)

/-- The law of either, over the numbers of the two functions. -/
def VStore (ns ni : Nat) (w0 : World) (a0 a1 : Value) (σ : Vw) (R : Value → Vw → Prop) : Prop :=
  pVal true 4 a0 (pLenS a1 (fun v0 => pBin Tryd.prog 3 BinOp.gtr v0 (Value.int IntKind.i64 1048576) (fun v1 => pIf v1 (R (Value.bool true) σ) (AC Tryd.prog w0 n_laws_szStore ([Value.agg (⟨[cellOf a0 0, cellOf a0 1, cellOf a0 2, cellOf a0 3]⟩), Value.int IntKind.i64 1048576]) σ (fun v2 s3 => pBin Tryd.prog 3 BinOp.lss v2 (Value.int IntKind.i64 0) (fun v4 => pIf v4 (R (Value.bool true) s3) (AC Tryd.prog w0 n_laws_toStore ([Value.agg (⟨[cellOf a0 0, cellOf a0 1, cellOf a0 2, cellOf a0 3]⟩)]) s3 (fun v5 s6 => AC Tryd.prog w0 ns [v5, a1] s6 (fun v7 s8 => pExtract v7 0 (fun v9 => pExtract v7 1 (fun v10 => pExtract v7 2 (fun v11 => pVal true 4 v10 (AC Tryd.prog w0 n_laws_toStore ([Value.agg (⟨[cellOf a0 0, cellOf a0 1, cellOf a0 2, cellOf a0 3]⟩)]) s8 (fun v12 s13 => pVal true 4 v12 (AC Tryd.prog w0 ni ([Value.agg (⟨[cellOf v12 0, cellOf v12 1, cellOf v12 2, cellOf v12 3]⟩), a1]) s13 (fun v14 s15 => pExtract v14 0 (fun v16 => pExtract v14 1 (fun v17 => pExtract v14 2 (fun v18 => pVal true 4 v17 (AC Tryd.prog w0 n_laws_eqRawS [v16, v9] s15 (fun v19 s20 => pUn UnOp.not v19 (fun v21 => pIf v21 (R (Value.bool false) s20) (AC Tryd.prog w0 n_laws_eqStore ([Value.agg (⟨[cellOf v17 0, cellOf v17 1, cellOf v17 2, cellOf v17 3]⟩), Value.agg (⟨[cellOf v10 0, cellOf v10 1, cellOf v10 2, cellOf v10 3]⟩)]) s20 (fun v22 s23 => pUn UnOp.not v22 (fun v24 => pIf v24 (R (Value.bool false) s23) (pBin Tryd.prog 3 BinOp.neq v18 v11 (fun v25 => pIf v25 (R (Value.bool false) s23) (AC Tryd.prog w0 n_laws_toStore ([Value.agg (⟨[cellOf a0 0, cellOf a0 1, cellOf a0 2, cellOf a0 3]⟩)]) s23 (fun v26 s27 => AC Tryd.prog w0 n_laws_eqStore ([Value.agg (⟨[cellOf v12 0, cellOf v12 1, cellOf v12 2, cellOf v12 3]⟩), v26]) s27 (fun v28 s29 => pUn UnOp.not v28 (fun v30 => pIf v30 (R (Value.bool false) s29) (AC Tryd.prog w0 n_laws_markStore ([Value.agg (⟨[cellOf v12 0, cellOf v12 1, cellOf v12 2, cellOf v12 3]⟩), Value.int IntKind.i64 1]) s29 (fun v31 s32 => pBin Tryd.prog 3 BinOp.lss v31 (Value.int IntKind.i64 0) (fun v33 => pIf v33 (R (Value.bool false) s32) (AC Tryd.prog w0 n_laws_eqRawS [v16, v9] s32 (fun v34 s35 => pUn UnOp.not v34 (fun v36 => pIf v36 (R (Value.bool false) s35) (AC Tryd.prog w0 n_laws_eqStore ([Value.agg (⟨[cellOf v17 0, cellOf v17 1, cellOf v17 2, cellOf v17 3]⟩), Value.agg (⟨[cellOf v10 0, cellOf v10 1, cellOf v10 2, cellOf v10 3]⟩)]) s35 (fun v37 s38 => pUn UnOp.not v37 (fun v39 => pIf v39 (R (Value.bool false) s38) (pBin Tryd.prog 3 BinOp.neq v18 v11 (fun v40 => pIf v40 (R (Value.bool false) s38) (AC Tryd.prog w0 n_laws_markRawS [v16, Value.int IntKind.i64 1] s38 (fun v41 s42 => AC Tryd.prog w0 n_laws_markStore ([Value.agg (⟨[cellOf v17 0, cellOf v17 1, cellOf v17 2, cellOf v17 3]⟩), v41]) s42 (fun v43 s44 => AC Tryd.prog w0 n_laws_heldRawS [v16, Value.int IntKind.i64 1] s44 (fun v45 s46 => pBin Tryd.prog 3 BinOp.lss v45 (Value.int IntKind.i64 0) (fun v47 => pIf v47 (R (Value.bool false) s46) (AC Tryd.prog w0 n_laws_heldStore ([Value.agg (⟨[cellOf v17 0, cellOf v17 1, cellOf v17 2, cellOf v17 3]⟩), v45]) s46 (fun v48 s49 => pBin Tryd.prog 3 BinOp.lss v48 (Value.int IntKind.i64 0) (fun v50 => pIf v50 (R (Value.bool false) s49) (pBin Tryd.prog 3 BinOp.neq v48 v43 (fun v51 => pIf v51 (R (Value.bool false) s49) (AC Tryd.prog w0 n_laws_toStore ([Value.agg (⟨[cellOf a0 0, cellOf a0 1, cellOf a0 2, cellOf a0 3]⟩)]) s49 (fun v52 s53 => AC Tryd.prog w0 ni [v52, a1] s53 (fun v54 s55 => pExtract v54 0 (fun v56 => pExtract v54 1 (fun v57 => pExtract v54 2 (fun v58 => pVal true 4 v57 (AC Tryd.prog w0 n_laws_eqRawS [v56, v9] s55 (fun v59 s60 => pUn UnOp.not v59 (fun v61 => pIf v61 (R (Value.bool false) s60) (AC Tryd.prog w0 n_laws_eqStore ([Value.agg (⟨[cellOf v57 0, cellOf v57 1, cellOf v57 2, cellOf v57 3]⟩), Value.agg (⟨[cellOf v10 0, cellOf v10 1, cellOf v10 2, cellOf v10 3]⟩)]) s60 (fun v62 s63 => pUn UnOp.not v62 (fun v64 => pIf v64 (R (Value.bool false) s63) (pBin Tryd.prog 3 BinOp.neq v58 v11 (fun v65 => pIf v65 (R (Value.bool false) s63) (AC Tryd.prog w0 n_laws_heldRawS [v16, Value.int IntKind.i64 1] s63 (fun v66 s67 => pBin Tryd.prog 3 BinOp.lss v66 (Value.int IntKind.i64 0) (fun v68 => pIf v68 (R (Value.bool false) s67) (AC Tryd.prog w0 n_laws_heldStore ([Value.agg (⟨[cellOf v17 0, cellOf v17 1, cellOf v17 2, cellOf v17 3]⟩), v66]) s67 (fun v69 s70 => pBin Tryd.prog 3 BinOp.lss v69 (Value.int IntKind.i64 0) (fun v71 => pIf v71 (R (Value.bool false) s70) (pBin Tryd.prog 3 BinOp.neq v69 v43 (fun v72 => pIf v72 (R (Value.bool false) s70) (R (Value.bool true) s70)))))))))))))))))))))))))))))))))))))))))))))))))))))))))))))))))))))))))))

theorem law_store {ns ni : Nat} {res : Sto → ByteArray → List Rw × Sto × Int}
    (hns : ∀ {σ : Vw} {es : List Value} {x : Sto} {g : ByteArray} {R : Value → Vw → Prop}, RSto (Av.get w0 σ) es x → x.2.2.1.length ≤ 1000000000 → g.size ≤ 1000000000 → Out w0 σ (res x g) R → AC Tryd.prog w0 ns [.agg ⟨es⟩, .string g] σ R)
    (hni : ∀ {σ : Vw} {es : List Value} {x : Sto} {g : ByteArray} {R : Value → Vw → Prop}, RSto (Av.get w0 σ) es x → x.2.2.1.length ≤ 1000000000 → g.size ≤ 1000000000 → Out w0 σ (res x g) R → AC Tryd.prog w0 ni [.agg ⟨es⟩, .string g] σ R)
    (hb : ∀ x g, (res x g).1.length ≤ 1000000 ∧ (res x g).2.1.2.2.1.length ≤ x.2.2.1.length + 1)
    {es : List Value} {x : Sto} {g : ByteArray} (h : RSto (Av.get w0 σ) es x) {R : Value → Vw → Prop} (hR : ∀ σ', R (.bool true) σ') : VStore ns ni w0 (.agg ⟨es⟩) (.string g) σ R := by
  unfold VStore
  rw [h.four]
  have h0 := h
  obtain ⟨v, rfl⟩ := h.shape
  simp only [cellOf_agg, List.getD_cons_zero, List.getD_cons_succ]
  rw [pLenS_s, pBin_gt, pIf_d]
  refine ⟨fun _ => hR _, fun hn => ?_⟩
  refine szStore h0 (by omega) ?_
  rw [pBin_lt, pIf_d]
  refine ⟨fun _ => hR _, fun hb' => ?_⟩
  rw [Av.left_neg] at hb'
  have hsz : szSto x ≤ 1048576 := by omega
  have hl : x.2.2.1.length ≤ 1048576 := by unfold szSto at hsz; omega
  obtain ⟨hb1, hb2⟩ := hb x g
  have hc := sum_const (α := Rw) 2 (res x g).1
  have ok := ok_sto w0
  have okr := ok_raw w0
  refine toStore h0 (by omega) fun es1 F1 s1 k1 o1 f1 => ?_
  refine hns (ok.rel _ _ _ _ o1) (by omega) (by omega) fun w ew Fr Fw s2 k2 qw ow gw fw _ => ?_
  rw [pExtract_s rfl, pExtract_s rfl, pExtract_s rfl]
  have hwr := qw.rel okr
  have hw := ok.rel _ _ _ _ ow
  rw [hw.four]
  have K2 := k1.trans k2
  refine toStore (mono_sto K2.le h0) (by omega) fun es2 F2 s3 k3 o2 f2 => ?_
  have r2 := ok.rel _ _ _ _ o2
  rw [r2.four]
  obtain ⟨v2, e2⟩ := r2.shape
  obtain ⟨vw, ew'⟩ := hw.shape
  subst e2 ew'
  simp only [cellOf_agg, List.getD_cons_zero, List.getD_cons_succ]
  refine hni r2 (by omega) (by omega) fun u eg Gr Fg s4 k4 qg og gg fg dg => ?_
  rw [pExtract_s rfl, pExtract_s rfl, pExtract_s rfl]
  have rg := ok.rel _ _ _ _ og
  rw [rg.four]
  obtain ⟨vg, eg'⟩ := rg.shape
  subst eg'
  simp only [cellOf_agg, List.getD_cons_zero, List.getD_cons_succ]
  have k24 := k3.trans k4
  refine eqRawS (qg.rel okr) (hwr.mono k24.le fun _ _ h => h) ?_
  rw [pUn_not, pIf_b]
  refine ⟨fun h => by simp at h, fun _ => ?_⟩
  refine eqStore rg (mono_sto k24.le hw) ?_
  rw [pUn_not, pIf_b]
  refine ⟨fun h => by simp at h, fun _ => ?_⟩
  rw [pBin_ne, pIf_d]
  refine ⟨fun h => absurd rfl h, fun _ => ?_⟩
  have K4 := K2.trans k24
  refine toStore (mono_sto K4.le h0) (by omega) fun es3 F3 s5 k5 o3 f3 => ?_
  refine eqStore (mono_sto (k4.trans k5).le r2) (ok.rel _ _ _ _ o3) ?_
  rw [pUn_not, pIf_b]
  refine ⟨fun h => by simp at h, fun _ => ?_⟩
  have p2 := ok.frame _ s5 _ _ _ o2 ((k4.trans k5).but_at fun b hb => (ok.dom _ _ _ _ o2 b hb).2)
  refine markStore (k := 1) p2 (by omega) fun s6 k6 _ => ?_
  rw [pBin_lt, pIf_d]
  refine ⟨fun h => by omega, fun _ => ?_⟩
  have k25 := k24.trans k5
  have k26 : Keeps s2 s6 := k6.old k25 f2
  have g5 := ok.frame _ s5 _ _ _ og (k5.but_at fun b hb => (ok.dom _ _ _ _ og b hb).2)
  have g6 := ok.frame _ s6 _ _ _ g5 (k6.at (fun b hb => (ok.dom _ _ _ _ g5 b hb).2) fun b hb hb' => (ok.dom _ _ _ _ o2 b hb').2 (fg b hb))
  have q5 := qg.frame okr (k5.but_at fun b hb => (qg.dom okr b hb).2)
  have q6 := q5.frame okr (k6.at (fun b hb => (q5.dom okr b hb).2) fun b hb hb' => (ok.dom _ _ _ _ o2 b hb').2 (gg b hb))
  refine eqRawS (q6.rel okr) (hwr.mono k26.le fun _ _ h => h) ?_
  rw [pUn_not, pIf_b]
  refine ⟨fun h => by simp at h, fun _ => ?_⟩
  refine eqStore (ok.rel _ _ _ _ g6) (mono_sto k26.le hw) ?_
  rw [pUn_not, pIf_b]
  refine ⟨fun h => by simp at h, fun _ => ?_⟩
  rw [pBin_ne, pIf_d]
  refine ⟨fun h => absurd rfl h, fun _ => ?_⟩
  refine markRawS (k := 1) q6 (by omega) fun s7 k7 q7 => ?_
  have g7 := ok.frame _ s7 _ _ _ g6 (k7.at (fun b hb => (ok.dom _ _ _ _ g6 b hb).2) fun b hb hb' => dg b hb' hb)
  refine markStore g7 (by omega) fun s8 k8 g8 => ?_
  have q8 := q7.frame okr (k8.at (fun b hb => (q7.dom okr b hb).2) fun b hb hb' => dg b hb hb')
  refine heldRawS (k := 1) (q8.rel okr) (by omega) fun s9 k9 => ?_
  rw [pBin_lt, pIf_d]
  refine ⟨fun h => by omega, fun _ => ?_⟩
  have g9 := ok.frame _ s9 _ _ _ g8 (k9.but_at fun b hb => (ok.dom _ _ _ _ g8 b hb).2)
  refine heldStore (ok.rel _ _ _ _ g9) (by omega) fun s10 k10 => ?_
  rw [pBin_lt, pIf_d]
  refine ⟨fun h => by omega, fun _ => ?_⟩
  rw [pBin_ne, pIf_d]
  refine ⟨fun h => absurd rfl h, fun _ => ?_⟩
  have k810 := k9.trans k10
  have q10 := q8.frame okr (k810.but_at fun b hb => (q8.dom okr b hb).2)
  have g10 := ok.frame _ s10 _ _ _ g8 (k810.but_at fun b hb => (ok.dom _ _ _ _ g8 b hb).2)
  have k28 : Keeps s2 s8 := k8.old (k7.old k26 fun b hb => none_at k3 (gg b hb)) fun b hb => none_at k3 (fg b hb)
  have k210 := k28.trans k810
  refine toStore (mono_sto (K2.trans k210).le h0) (by omega) fun es4 F4 s11 k11 o4 f4 => ?_
  refine hni (ok.rel _ _ _ _ o4) (by omega) (by omega) fun u' eh Hr Fh s12 k12 qh oh _ _ _ => ?_
  rw [pExtract_s rfl, pExtract_s rfl, pExtract_s rfl]
  have rh := ok.rel _ _ _ _ oh
  rw [rh.four]
  obtain ⟨vh, eh'⟩ := rh.shape
  subst eh'
  simp only [cellOf_agg, List.getD_cons_zero, List.getD_cons_succ]
  have k1012 := k11.trans k12
  have k212 := k210.trans k1012
  refine eqRawS (qh.rel okr) (hwr.mono k212.le fun _ _ h => h) ?_
  rw [pUn_not, pIf_b]
  refine ⟨fun h => by simp at h, fun _ => ?_⟩
  refine eqStore rh (mono_sto k212.le hw) ?_
  rw [pUn_not, pIf_b]
  refine ⟨fun h => by simp at h, fun _ => ?_⟩
  rw [pBin_ne, pIf_d]
  refine ⟨fun h => absurd rfl h, fun _ => ?_⟩
  have q12 := q10.frame okr (k1012.but_at fun b hb => (q10.dom okr b hb).2)
  have g12 := ok.frame _ s12 _ _ _ g10 (k1012.but_at fun b hb => (ok.dom _ _ _ _ g10 b hb).2)
  refine heldRawS (k := 1) (q12.rel okr) (by omega) fun s13 k13 => ?_
  rw [pBin_lt, pIf_d]
  refine ⟨fun h => by omega, fun _ => ?_⟩
  have g13 := ok.frame _ s13 _ _ _ g12 (k13.but_at fun b hb => (ok.dom _ _ _ _ g12 b hb).2)
  refine heldStore (ok.rel _ _ _ _ g13) (by omega) fun s14 k14 => ?_
  rw [pBin_lt, pIf_d]
  refine ⟨fun h => by omega, fun _ => ?_⟩
  rw [pBin_ne, pIf_d]
  exact ⟨fun h => absurd rfl h, fun _ => hR _⟩

theorem appR_len (x : Sto) (g : ByteArray) : (appR x g).1.length ≤ 1000000 ∧ (appR x g).2.1.2.2.1.length ≤ x.2.2.1.length + 1 := by
  unfold appR
  split
  · simp
  · split
    · simp
    · rename_i h
      split
      · simp
      · have := many63 (s := g) (by omega)
        simp only [List.length_append, apP_len, List.length_cons, List.length_nil]
        omega
theorem saveR_len (x : Sto) (t : ByteArray) : (saveR x t).1.length ≤ 1000000 ∧ (saveR x t).2.1.2.2.1.length ≤ x.2.2.1.length + 1 := by
  unfold saveR
  split
  · simp
  · split
    · simp
    · rename_i h
      split
      · simp
      · have := many64 (s := t) (by omega)
        simp only [savedR_len, List.length_nil]
        omega

theorem law_StoreAppend (tab : Tab w0) {es : List Value} {x : Sto} {g : ByteArray} (h : RSto (Av.get w0 σ) es x) (hs : g.size ≤ 9223372036854775807) {R : Value → Vw → Prop} (hR : ∀ σ', R (.bool true) σ') : AC Tryd.prog w0 n_laws_FnExactStoreAppend [.agg ⟨es⟩, .string g] σ R := by
  refine ac_laws_FnExactStoreAppend ?_
  have e : vc_laws_FnExactStoreAppend w0 (.agg ⟨es⟩) (.string g) σ R = VStore n_spec_StoreAppend n_impl_StoreAppend w0 (.agg ⟨es⟩) (.string g) σ R := by kernel_rfl
  rw [e]
  exact law_store (res := appR) (fun h hl hs hR => spec_StoreAppend h hl hs hR) (fun h hl hs hR => impl_StoreAppend tab h hl hs hR) appR_len h hR
theorem law_StoreSave (tab : Tab w0) {es : List Value} {x : Sto} {g : ByteArray} (h : RSto (Av.get w0 σ) es x) (hs : g.size ≤ 9223372036854775807) {R : Value → Vw → Prop} (hR : ∀ σ', R (.bool true) σ') : AC Tryd.prog w0 n_laws_FnExactStoreSave [.agg ⟨es⟩, .string g] σ R := by
  refine ac_laws_FnExactStoreSave ?_
  have e : vc_laws_FnExactStoreSave w0 (.agg ⟨es⟩) (.string g) σ R = VStore n_spec_StoreSave n_impl_StoreSave w0 (.agg ⟨es⟩) (.string g) σ R := by kernel_rfl
  rw [e]
  exact law_store (res := saveR) (fun h hl hs hR => spec_StoreSave h hl hs hR) (fun h hl hs hR => impl_StoreSave tab h hl hs hR) saveR_len h hR
end

theorem cut4 {es : List Value} {a b c d : Value} (hl : es.length = 4) (h0 : (es.drop 0).take 1 = [a]) (h1 : (es.drop 1).take 1 = [b]) (h2 : (es.drop 2).take 1 = [c]) (h3 : (es.drop 3).take 1 = [d]) : es = [a, b, c, d] := by
  match es, hl with
  | [x, y, z, w], _ =>
    simp at h0 h1 h2 h3
    rw [h0, h1, h2, h3]
theorem open_store {H : Type} {enc : TypeId × Value → H} {W : World} {spare : Nat → Bool} (fuel : Nat) (es : List Value) (y : DataW H × List MemPlace) (h : DataW.trod enc Tryd.prog W 0 spare true fuel t_laws_Store es = some y) (hl : es.length = 4) : ∃ x, RSto (Av.get W σ0) es x := by
  have hT : Tryd.prog.underlying t_laws_Store = some (.struct (fsOf Tryd.prog t_laws_Store)) := by kernel_rfl
  obtain ⟨f0, y0, l0, h0⟩ := open_field' hT 0 t_int 0 1 (by kernel_rfl) (by kernel_rfl) h
  obtain ⟨f1, y1, l1, h1⟩ := open_field' hT 1 t_string 1 1 (by kernel_rfl) (by kernel_rfl) h
  obtain ⟨f2, y2, l2, h2⟩ := open_field' hT 2 t_s_string 2 1 (by kernel_rfl) (by kernel_rfl) h
  obtain ⟨f3, y3, l3, h3⟩ := open_field' hT 3 t_int 3 1 (by kernel_rfl) (by kernel_rfl) h
  obtain ⟨m, hm, hm2⟩ := open_int (by kernel_rfl) h0
  obtain ⟨t, ht, ht2⟩ := open_str (by kernel_rfl) h1
  obtain ⟨u, ns, hu, hus⟩ := open_rsl (t := t_s_string) (e := t_string) (by kernel_rfl) (by kernel_rfl) (open_rs (by kernel_rfl)) h2
  obtain ⟨k, hk, hk2⟩ := open_int (by kernel_rfl) h3
  exact ⟨(m, t, ns, k), u, cut4 hl hm ht hu hk, hus, hm2, ht2, hk2⟩
end Go.Proofs.YtkndffhcncmbjaaDoor

/- The law FnExactStoreSave holds: it returns true, and the input reads as it did. No condition. -/
namespace Go.Proofs.YtkndffhcncmbjaaDoor.fnExactStoreSave
open Go.ChangeShapes Go.WideShapes Go.ChangeAt Go.RowKit Go.Av
set_option linter.unusedVariables false
set_option linter.unusedSimpArgs false
theorem own : ownKnob Tryd.prog.godebug = none := by kernel_rfl
theorem laidOut : laidOutB Tryd.prog = true := by kernel_rfl
abbrev laidL : List (String × DataW Unit) := [("math/bits.deBruijn32tab", Rows.laid_math_bits_deBruijn32tab), ("math/bits.deBruijn64tab", Rows.laid_math_bits_deBruijn64tab), ("internal/strconv.uint64pow10", Rows.laid_internal_strconv_uint64pow10)]
theorem door_met (os : Os) (args : Array Value) : laidMetH Tryd.prog laidL ((World.doorLaid Tryd.prog 400 os).forCall (fun _ _ => 0) ⟨#[], args, []⟩).memory :=
  laidMetH_of_parts3 (fuel := 8) (laidMet_of_run' 8 (by kernel_rfl) (by kernel_rfl)) (by kernel_rfl) (by kernel_rfl)
theorem gPow : Tryd.prog.globalNamed "internal/strconv.uint64pow10" = some 0 := by kernel_rfl
theorem tab_of {W : World} (h : laidMetH Tryd.prog laidL W) : Tab W := by
  rw [MakeChecks.laidMetH_plain _ _ _ (by kernel_rfl)] at h
  have h3 := laidMet.tail (laidMet.tail h)
  have e : (Rows.laid_internal_strconv_uint64pow10 : DataW Unit) = Lib.tabData .u64 Lib.pow10Tab := by kernel_rfl
  rw [e] at h3
  have ht : Lib.TabIs Tryd.prog W "internal/strconv.uint64pow10" .u64 Lib.pow10Tab := Lib.tabIs_of_head (n := 20) (t := 158) (e := 145) gPow (by kernel_rfl) (by kernel_rfl) (by kernel_rfl) (by kernel_rfl) (by kernel_rfl) h3
  intro w hw
  refine var?_below hw gPow ?_ ht
  rcases Nat.lt_or_ge 0 W.heap.size with h' | h'
  · exact h'
  · simp [Lib.TabIs, World.var?, gPow, Array.getElem?_eq_none h'] at ht
set_option maxRecDepth 100000 in
theorem lifted (os : Os) (started : os.Started) (H : Type) (enc : TypeId × Value → H) :
    ReturnsInHanded {} Tryd.checked os 5 .any (fun w args => (Rows.fnExactStoreSaveSpec.pre enc Tryd.prog Tryd.f5 [] false w args ∧ laidMetH Tryd.prog laidL w) ∧ sizedMet enc Tryd.prog Tryd.f5 (OpenSpec.ofChange Rows.fnExactStoreSaveSpec) false w args)
      (Rows.fnExactStoreSaveSpec.post enc Tryd.prog Tryd.f5 false true false false) := by
  refine returnsInHanded_of_change_and (C := Tryd.checked) (X := fun w _ => laidMetH Tryd.prog laidL w) (fun _ _ _ hh h => h.of_heap hh) own started (by kernel_rfl) Tryd.func5
    (ChangeSpec.witness_shaped (enc := enc) (C := Tryd.checked) (os := os) (X := fun w _ => laidMetH Tryd.prog laidL w) false (World.doorLaid Tryd.prog 400 os) #[.agg #[.int .i64 0, .string ⟨#[]⟩, .slice none 0 0, .int .i64 0], .string ⟨#[]⟩] 8 rfl (World.shaped_of_RefB (by kernel_rfl) (by kernel_rfl)) (by kernel_rfl) (by kernel_rfl) (by kernel_rfl) (door_met os _)) ?_
  intro W base args ds gs before hval0 hW _ _ hL _
  have hval : ∀ (j : Nat) t v, Tryd.f5.params[j]? = some t → args[j]? = some v → Value.okWide Tryd.prog W .any base t v := hval0
  have hW' := hW
  obtain ⟨p, q, hA0, hV, rfl, hfz, hnd⟩ := hW
  have hA : DataW.TrodAll enc Tryd.prog W 0 (fun _ => true) true Tryd.f5.params.toList args.toList ds p := hA0
  rw [Tryd.params5] at hA hval
  obtain ⟨v0, v1, d0, d1, p0, p1, rfl, rfl, hpp, h0, h1⟩ := trodAll_two hA
  obtain ⟨rfl, rfl⟩ := trodVars_none hV
  have hT0 : Tryd.prog.underlying 30 = some (.struct (fsOf Tryd.prog 30)) := by kernel_rfl
  obtain ⟨c0, rfl, hc0⟩ := okWide_struct hT0 (hval 0 30 v0 rfl rfl)
  obtain ⟨s1, rfl⟩ := okWide_string (t := 9) (by kernel_rfl) (hval 1 9 v1 rfl rfl)
  have h0k := h0
  obtain ⟨fuel0, hf0⟩ := h0
  have h1k := h1
  obtain ⟨fuel1, hf1⟩ := h1
  clear hA0 hval0
  simp only [List.append_nil] at hW'
  have hlt : ∀ x ∈ p, x.block < W.heap.size := fun x hx => by simpa using hW'.lt x hx
  have hargs0 : ∀ (W' : World), Below W.heap.size W W' → DataW.Trod enc Tryd.prog W' 0 (fun b => decide (b < W.heap.size)) true 30 (.agg c0) d0 p0 :=
    fun W' hn => Below.trod laidOut (by kernel_rfl) (of_decide_eq_true (by kernel_rfl)) h0k hn (fun x hx => hlt x (by rw [hpp]; simp [hx]))
  have hargs1 : ∀ (W' : World), Below W.heap.size W W' → DataW.Trod enc Tryd.prog W' 0 (fun b => decide (b < W.heap.size)) true 9 (.string s1) d1 p1 :=
    fun W' hn => Below.trod laidOut (by kernel_rfl) (of_decide_eq_true (by kernel_rfl)) h1k hn (fun x hx => hlt x (by rw [hpp]; simp [hx]))
  have hl0 : c0.toList.length = 4 := by rw [Array.length_toList, hc0]; kernel_rfl
  obtain ⟨x0, r0⟩ := open_store fuel0 c0.toList _ hf0 hl0
  obtain ⟨m1, e1, r1⟩ := open_str (t := 9) (by kernel_rfl) hf1
  have e1' : m1 = s1 := by
    have : [Value.string s1] = [.string m1] := e1
    cases this; rfl
  subst e1'
  refine ((law_StoreSave (tab_of hL) (R := fun v _ => v = .bool true) r0 r1 (by intros; rfl)).calls).mono fun e W' ⟨v, σ', he, hv, bel⟩ => ?_
  subst he hv
  have hW'' := hW'
  rw [hpp] at hW''
  exact ⟨_, rfl, _, _, _, [], _, [], hW'', trodAll_mk1 (shut_bool Tryd.underlying4 _), trodAll_mk2 (hargs0 W' bel) (hargs1 W' bel), rfl, bel.frame _, fun h => by cases h⟩
theorem over : Rows.fnExactStoreSaveRow.holds Tryd.pinned (OpenSpec.ofChange Rows.fnExactStoreSaveSpec) :=
  OpenClaim.holds_of_wide 5 Tryd.f5 rfl rfl rfl rfl rfl rfl rfl ⟨rfl, rfl, rfl, rfl, rfl⟩ rfl rfl rfl rfl rfl (by kernel_rfl) Tryd.func5 (by kernel_rfl)
    (of_decide_eq_true (by kernel_rfl)) (by unfold Func.isWrapper; first | (rw [if_pos (by decide +kernel)]; kernel_rfl) | (rw [if_neg (by decide +kernel)]; exact ⟨rfl, rfl⟩))
    (fun os started H enc _ => lifted os started H enc)
/-- THE TIED CARD. -/
theorem proved : Rows.FnExactStoreSaveCardSaid :=
  Claim7.holds_tied_plain_at .later [] [.data, .data, .data] true (true, "ce3683d55da6258caadab03feae6378e369979a4cdc02dba53ad676e561c3181") false
    over (fun _ h => by cases h) (by kernel_rfl) (fun _ h => by cases h) fnExactStoreSave_row_tie rfl ⟨rfl, rfl⟩ (by kernel_rfl) rfl
    (fun f fn hf hfn => by
      obtain rfl : f = 5 := Option.some.inj ((show Tryd.prog.funcNamed "loop.example/changetrail/laws.FnExactStoreSave" = some 5 by kernel_rfl).symm.trans hf) |>.symm
      obtain rfl : fn = Tryd.f5 := (Option.some.inj (Tryd.func5.symm.trans hfn)).symm
      exact ⟨by kernel_rfl, fun j t ht => by
        rw [Tryd.params5] at ht
        have hm : t ∈ [30, 9] := by simpa using Array.mem_of_getElem? ht
        have hall : ([30, 9].all fun u => !Tryd.prog.wantsStandIn u) = true := by kernel_rfl
        exact (show Tryd.prog.wantsStandIn t = false by simpa using List.all_eq_true.1 hall t hm)⟩)
    (by kernel_rfl)
end Go.Proofs.YtkndffhcncmbjaaDoor.fnExactStoreSave
namespace Go.Proofs.YtkndffhcncmbjaaDoor
/-- The row, under a short name, for the claim. -/
theorem fnExactStoreSave_holds : Rows.FnExactStoreSaveCardSaid := fnExactStoreSave.proved
end Go.Proofs.YtkndffhcncmbjaaDoor
