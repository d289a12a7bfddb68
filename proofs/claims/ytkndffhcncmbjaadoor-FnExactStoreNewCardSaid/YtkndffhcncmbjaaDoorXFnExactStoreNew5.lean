/- The law FnExactStoreNew holds: it returns true, and the input reads as it did. No condition. This is part 5 of 5 of its proof. -/
import Derived.Test.YtkndffhcncmbjaaDoorXFnExactStoreNew4
import Derived.Shelf.Strings.Builder1
import Derived.Shelf.Strconv.Itoa0
import Derived.Shelf.Strconv.Itoa1
import Derived.Shelf.LaysM
import Derived.Shelf.Strconv.Itoa2
import Derived.Shelf.Strconv.Itoa3
import Derived.Test.YtkndffhcncmbjaaDoorProg
import Derived.Lib.AppendIntMem
import Derived.Test.YtkndffhcncmbjaaDoorRows
import Derived.WalkKit
import Derived.ProofKit
import Derived.OpenShut
import Derived.ShutString
import Derived.ChangeOld
import Derived.Below
import Derived.Carry
import Derived.SizedLaws
import Derived.LaidMore
import Derived.Stop.Joined
import Derived.Stop.LaidErr
import Derived.Lib.LaidTab
import Derived.WalkSmall
import Derived.MakeChecks
import Derived.SevenTiedAt
import Derived.Test.YtkndffhcncmbjaaDoorCards
import Derived.Test.YtkndffhcncmbjaaDoorTie

/-
  DERIVED: THE SHELF's CONTRACTS AT THIS DUMP, IN PLAIN WORDS (tools/lay-plain.mjs out of 'TrydShelf.lean', which tools/lay-shelf.mjs wrote): THE SAME DECLARATIONS UNDER THE SAME NAMES: 'import', 'namespace', 'open', 'def', 'theorem' AND NOTHING ELSE: no command of the shelf's: FOR A HAND-IN. Each laying: the table of numbers ('.._ren') and one theorem, a field a fact of the dump's own or the kernel's comparison; each contract: ONE APPLICATION.
-/
namespace Go.Proofs
open Go.Shelf
def Tryd.lays169_ren : Go.Shelf.Ren := ⟨fun | 169 => 63 | n => n, fun | 70 => 80 | 9 => 9 | 0 => 0 | 72 => 82 | 37 => 52 | 127 => 114 | 3 => 3 | 5 => 5 | n => n, fun | n => n⟩
theorem Tryd.lays169 : Go.Proofs.Lays.n169 Tryd.prog Tryd.lays169_ren := {
  mixed := by kernel_rfl
  f169 := Tryd.func63.trans (congrArg some (by kernel_rfl))
  t0 := Tryd.underlying0
  a0 := Tryd.isAgg0
  z0 := Tryd.sizeOf0
  v0 := Tryd.zeroValue0
  t3 := Tryd.underlying3
  a3 := Tryd.isAgg3
  z3 := Tryd.sizeOf3
  v3 := Tryd.zeroValue3
  t9 := Tryd.underlying9
  a9 := Tryd.isAgg9
  z9 := Tryd.sizeOf9
  v9 := Tryd.zeroValue9
  t37 := Tryd.underlying52
  a37 := Tryd.isAgg52
  z37 := Tryd.sizeOf52
  v37 := Tryd.zeroValue52
  t70 := Tryd.underlying80
  a70 := Tryd.isAgg80
  z70 := Tryd.sizeOf80
  v70 := Tryd.zeroValue80
  t72 := Tryd.underlying82
  a72 := Tryd.isAgg82
  z72 := Tryd.sizeOf82
  v72 := Tryd.zeroValue82
  t127 := Tryd.underlying114
  a127 := Tryd.isAgg114
  z127 := Tryd.sizeOf114
  v127 := Tryd.zeroValue114 }
theorem Tryd.Builder_Extra_169 : Builder.Extra Tryd.prog Tryd.lays169_ren := {
  sizeBuilder := by kernel_rfl
  liesBuilder := by kernel_rfl
  t5 := Tryd.underlying5
  a5 := Tryd.isAgg5
  z5 := Tryd.sizeOf5
  v5 := Tryd.zeroValue5
  infoByte := by kernel_rfl
  cellsByte := by kernel_rfl
  sizeByte := by kernel_rfl
  neB5 := by decide }
open Go.RowKit in
/-- (*strings.Builder).String: "String returns the accumulated string.": OF A BUILDER THAT HOLDS AT LEAST ONE BYTE. ✋ THE MODEL FREEZES THOSE BYTES IN THE BUFFER (unsafe.String): a later write INTO them ends the model's run without an answer; a later append BEHIND them goes on. The statement's order of evaluation is drawn: one draw. (LAID: no walk: one application.) -/
theorem Tryd.Builder_String (B b : Nat) (l : List UInt8) (w : World) (h : Lib.IsBuilder 82 5 B b (Lib.byteCells l) w) (h0 : l ≠ []) :
    Calls Tryd.prog 63 #[.pointer (some ⟨b, 0, none⟩)] w fun e w' => e = .returned (.string ⟨l.toArray⟩) ∧ Below B w w' := Any.Builder_String Tryd.lays169 Tryd.Builder_Extra_169 B b l w h h0
open Go.RowKit in
/-- (*strings.Builder).String OF A BUILDER THAT HOLDS NO BYTE: the empty string. (Its buffer is nil, or a row of which it has taken nothing yet; where that row has NO capacity the model lays one new block for unsafe.SliceData's 'some address'.) One draw. (LAID: no walk: one application.) -/
theorem Tryd.Builder_String_empty (B b : Nat) (w : World) (h : Lib.IsBuilder 82 5 B b [] w) (hBw : B ≤ w.heap.size) :
    Calls Tryd.prog 63 #[.pointer (some ⟨b, 0, none⟩)] w fun e w' => e = .returned (.string ⟨#[]⟩) ∧ Below B w w' := Any.Builder_String_empty Tryd.lays169 Tryd.Builder_Extra_169 B b w h hBw
open Go.RowKit in
/-- (*strings.Builder).String: "String returns the accumulated string.": WHATEVER THE BUILDER HOLDS. (LAID: no walk: one application.) -/
theorem Tryd.Builder_String_any (B b : Nat) (l : List UInt8) (w : World) (h : Lib.IsBuilder 82 5 B b (Lib.byteCells l) w) (hBw : B ≤ w.heap.size) :
    Calls Tryd.prog 63 #[.pointer (some ⟨b, 0, none⟩)] w fun e w' => e = .returned (.string ⟨l.toArray⟩) ∧ Below B w w' := Any.Builder_String_any Tryd.lays169 Tryd.Builder_Extra_169 B b l w h hBw
def Tryd.lays129_ren : Go.Shelf.Ren := ⟨fun | 129 => 122 | n => n, fun | 53 => 145 | 3 => 3 | 4 => 4 | 46 => 162 | 5 => 5 | 9 => 9 | n => n, fun | n => n⟩
theorem Tryd.lays129 : Go.Proofs.Lays.n129 Tryd.prog Tryd.lays129_ren := {
  mixed := by kernel_rfl
  f129 := Tryd.func122.trans (congrArg some (by kernel_rfl))
  t3 := Tryd.underlying3
  a3 := Tryd.isAgg3
  z3 := Tryd.sizeOf3
  v3 := Tryd.zeroValue3
  t4 := Tryd.underlying4
  a4 := Tryd.isAgg4
  z4 := Tryd.sizeOf4
  v4 := Tryd.zeroValue4
  t5 := Tryd.underlying5
  a5 := Tryd.isAgg5
  z5 := Tryd.sizeOf5
  v5 := Tryd.zeroValue5
  t9 := Tryd.underlying9
  a9 := Tryd.isAgg9
  z9 := Tryd.sizeOf9
  v9 := Tryd.zeroValue9
  t46 := Tryd.underlying162
  a46 := Tryd.isAgg162
  z46 := Tryd.sizeOf162
  v46 := Tryd.zeroValue162
  t53 := Tryd.underlying145
  a53 := Tryd.isAgg145
  z53 := Tryd.sizeOf145
  v53 := Tryd.zeroValue145 }
/-- bits.Len64: "Len64 returns the minimum number of bits required to represent x; the result is 0 for x == 0.": IT RETURNS 'Lib.bitLen x'; the world is as it was. ('h0', 'h1': x is a uint64.) (LAID: no walk: one application.) -/
theorem Tryd.bits_Len64 (x : Int) (w : World) (h0 : 0 ≤ x) (h1 : x ≤ 18446744073709551615) :
    Calls Tryd.prog 122 #[.int .u64 x] w fun e w' => e = .returned (.int .i64 (Lib.bitLen x.toNat)) ∧ w' = w := Any.bits_Len64 Tryd.lays129 x w h0 h1
def Tryd.lays317_ren : Go.Shelf.Ren := ⟨fun | 317 => 121 | n => n, fun | 3 => 3 | 46 => 162 | n => n, fun | n => n⟩
theorem Tryd.lays317 : Go.Proofs.Lays.n317 Tryd.prog Tryd.lays317_ren := {
  mixed := by kernel_rfl
  f317 := Tryd.func121.trans (congrArg some (by kernel_rfl))
  t3 := Tryd.underlying3
  a3 := Tryd.isAgg3
  z3 := Tryd.sizeOf3
  v3 := Tryd.zeroValue3
  t46 := Tryd.underlying162
  a46 := Tryd.isAgg162
  z46 := Tryd.sizeOf162
  v46 := Tryd.zeroValue162 }
open Go.Lib in
/-- internal/strconv.log10Pow2: "log10Pow2(x) returns ⌊log₁₀ 2**x⌋ = ⌊x * log₁₀ 2⌋.": '(x * 78913) >> 18', at an x up to 64 (a length in bits). The world is as it was. (LAID: no walk: one application.) -/
theorem Tryd.internal_strconv_log10Pow2 (x : Nat) (h : x ≤ 64) (w : World) :
    Calls Tryd.prog 121 #[.int .i64 x] w fun e w' => e = .returned (.int .i64 (Lib.l10 x)) ∧ w' = w := Any.internal_strconv_log10Pow2 Tryd.lays317 x h w
def Tryd.lays318_ren : Go.Shelf.Ren := ⟨fun | 318 => 123 | n => n, fun | 3 => 3 | 4 => 4 | n => n, fun | n => n⟩
theorem Tryd.lays318 : Go.Proofs.Lays.n318 Tryd.prog Tryd.lays318_ren := {
  mixed := by kernel_rfl
  f318 := Tryd.func123.trans (congrArg some (by kernel_rfl))
  t3 := Tryd.underlying3
  a3 := Tryd.isAgg3
  z3 := Tryd.sizeOf3
  v3 := Tryd.zeroValue3
  t4 := Tryd.underlying4
  a4 := Tryd.isAgg4
  z4 := Tryd.sizeOf4
  v4 := Tryd.zeroValue4 }
open Go.Lib in
/-- internal/strconv.bool2: "bool2 converts b to an integer: 1 for true, 0 for false." The world is as it was. (LAID: no walk: one application.) -/
theorem Tryd.internal_strconv_bool2_int (b : Bool) (w : World) :
    Calls Tryd.prog 123 #[.bool b] w fun e w' => e = .returned (.int .i64 (if b then 1 else 0)) ∧ w' = w := Any.internal_strconv_bool2_int Tryd.lays318 b w
def Tryd.lays283_ren : Go.Shelf.Ren := ⟨fun | 283 => 111 | n => n, fun | 3 => 3 | 9 => 9 | 4 => 4 | n => n, fun | n => n⟩
theorem Tryd.lays283 : Go.Proofs.Lays.n283 Tryd.prog Tryd.lays283_ren := {
  mixed := by kernel_rfl
  f283 := Tryd.func111.trans (congrArg some (by kernel_rfl))
  t3 := Tryd.underlying3
  a3 := Tryd.isAgg3
  z3 := Tryd.sizeOf3
  v3 := Tryd.zeroValue3
  t4 := Tryd.underlying4
  a4 := Tryd.isAgg4
  z4 := Tryd.sizeOf4
  v4 := Tryd.zeroValue4
  t9 := Tryd.underlying9
  a9 := Tryd.isAgg9
  z9 := Tryd.sizeOf9
  v9 := Tryd.zeroValue9 }
open Go.Lib in
/-- internal/strconv.small: "small returns the string for an i with 0 <= i < nSmalls.": i's decimal numeral. The world is as it was. (LAID: no walk: one application.) -/
theorem Tryd.internal_strconv_small (i : Nat) (h : i < 100) (w : World) :
    Calls Tryd.prog 111 #[.int .i64 i] w fun e w' => e = .returned (.string ⟨(Lib.decDigits i).toArray⟩) ∧ w' = w := Any.internal_strconv_small Tryd.lays283 i h w
def Tryd.laysM284_ren : Go.Shelf.Ren := ⟨fun | 284 => 112 | 129 => 122 | 317 => 121 | 318 => 123 | n => n, fun | 53 => 145 | 3 => 3 | 212 => 158 | 0 => 0 | 4 => 4 | 46 => 162 | 5 => 5 | 9 => 9 | n => n, fun | 17 => 0 | n => n⟩
theorem Tryd.laysM284 : Go.Proofs.LaysM.n284 Tryd.prog Tryd.laysM284_ren := {
  mixed := by kernel_rfl
  f129 := Tryd.func122.trans (congrArg some (by kernel_rfl))
  f284 := Tryd.func112.trans (congrArg some (by kernel_rfl))
  f317 := Tryd.func121.trans (congrArg some (by kernel_rfl))
  f318 := Tryd.func123.trans (congrArg some (by kernel_rfl))
  t0 := Tryd.underlying0
  a0 := Tryd.isAgg0
  z0 := Tryd.sizeOf0
  v0 := Tryd.zeroValue0
  t3 := Tryd.underlying3
  a3 := Tryd.isAgg3
  z3 := Tryd.sizeOf3
  v3 := Tryd.zeroValue3
  t4 := Tryd.underlying4
  a4 := Tryd.isAgg4
  z4 := Tryd.sizeOf4
  v4 := Tryd.zeroValue4
  t5 := Tryd.underlying5
  a5 := Tryd.isAgg5
  z5 := Tryd.sizeOf5
  v5 := Tryd.zeroValue5
  t9 := Tryd.underlying9
  a9 := Tryd.isAgg9
  z9 := Tryd.sizeOf9
  v9 := Tryd.zeroValue9
  t46 := Tryd.underlying162
  a46 := Tryd.isAgg162
  z46 := Tryd.sizeOf162
  v46 := Tryd.zeroValue162
  t53 := Tryd.underlying145
  a53 := Tryd.isAgg145
  z53 := Tryd.sizeOf145
  v53 := Tryd.zeroValue145
  t212 := Tryd.underlying158
  a212 := Tryd.isAgg158
  z212 := Tryd.sizeOf158
  v212 := Tryd.zeroValue158
  g17 := by kernel_rfl
  i0 := by kernel_rfl
  i3 := by kernel_rfl
  i4 := by kernel_rfl
  i5 := by kernel_rfl
  i9 := by kernel_rfl
  i46 := by kernel_rfl
  i53 := by kernel_rfl
  i212 := by kernel_rfl
  m17 := by kernel_rfl }
open Go.Lib in
/-- internal/strconv.numDigits, at a d that is not 0: THE NUMBER OF d's DECIMAL DIGITS. The world is as it was. (LAID: no walk: one application.) -/
theorem Tryd.internal_strconv_numDigits (u : Nat) (h1 : 1 ≤ u) (h2 : u < 18446744073709551616) (w : World) (htab : Lib.TabIs Tryd.prog w "internal/strconv.uint64pow10" .u64 Lib.pow10Tab) :
    Calls Tryd.prog 112 #[.int .u64 u] w fun e w' => e = .returned (.int .i64 (Lib.nDigits u)) ∧ w' = w := Any.internal_strconv_numDigits Tryd.laysM284 u h1 h2 w htab
def Tryd.lays285_ren : Go.Shelf.Ren := ⟨fun | 285 => 113 | n => n, fun | 37 => 52 | 53 => 145 | 3 => 3 | 4 => 4 | 51 => 159 | 9 => 9 | 5 => 5 | 0 => 0 | n => n, fun | n => n⟩
theorem Tryd.lays285 : Go.Proofs.Lays.n285 Tryd.prog Tryd.lays285_ren := {
  mixed := by kernel_rfl
  f285 := Tryd.func113.trans (congrArg some (by kernel_rfl))
  t0 := Tryd.underlying0
  a0 := Tryd.isAgg0
  z0 := Tryd.sizeOf0
  v0 := Tryd.zeroValue0
  t3 := Tryd.underlying3
  a3 := Tryd.isAgg3
  z3 := Tryd.sizeOf3
  v3 := Tryd.zeroValue3
  t4 := Tryd.underlying4
  a4 := Tryd.isAgg4
  z4 := Tryd.sizeOf4
  v4 := Tryd.zeroValue4
  t5 := Tryd.underlying5
  a5 := Tryd.isAgg5
  z5 := Tryd.sizeOf5
  v5 := Tryd.zeroValue5
  t9 := Tryd.underlying9
  a9 := Tryd.isAgg9
  z9 := Tryd.sizeOf9
  v9 := Tryd.zeroValue9
  t37 := Tryd.underlying52
  a37 := Tryd.isAgg52
  z37 := Tryd.sizeOf52
  v37 := Tryd.zeroValue52
  t51 := Tryd.underlying159
  a51 := Tryd.isAgg159
  z51 := Tryd.sizeOf159
  v51 := Tryd.zeroValue159
  t53 := Tryd.underlying145
  a53 := Tryd.isAgg145
  z53 := Tryd.sizeOf145
  v53 := Tryd.zeroValue145 }
open Go.RowKit Go.Sort Go.Lib in
/-- internal/strconv.formatBase10: "formatBase10 formats the decimal representation of u into a. The caller is responsible for ensuring that a is big enough to hold u. If a is too big, leading zeros will be filled in as needed.": THE ROW HOLDS u's DIGITS ('FmtInv .. 0 ..': every place t holds 'dg u (len - 1 - t)'); all else is as it was but for the count of draws. (LAID: no walk: one application.) -/
theorem Tryd.internal_strconv_formatBase10 (blk off cap : Nat) (u : Nat) (d : Array UInt8) (w : World) (hH : Holds (fun (b : UInt8) => Value.int .u8 (b.toNat : Int)) w blk off d) (hu : u < 10 ^ d.size) (hu64 : u < 18446744073709551616) (hsz : d.size < 4611686018427387904) :
    Calls Tryd.prog 113 #[.slice (some ⟨blk, off, none⟩) d.size cap, .int .u64 u] w fun e w' =>
      e = .returned (.tuple #[]) ∧ ∃ (n v' : Nat) (dk : Array UInt8), w' = (putRow (fun (b : UInt8) => Value.int .u8 (b.toNat : Int)) w blk off dk).drewN n ∧ FmtInv d.size u 0 v' dk := Any.internal_strconv_formatBase10 Tryd.lays285 blk off cap u d w hH hu hu64 hsz
def Tryd.laysM246_ren : Go.Shelf.Ren := ⟨fun | 246 => 101 | 283 => 111 | 284 => 112 | 285 => 113 | 286 => 114 | 129 => 122 | 317 => 121 | 318 => 123 | 319 => 124 | 320 => 125 | 337 => 127 | 338 => 128 | n => n, fun | 2 => 2 | 3 => 3 | 9 => 9 | 4 => 4 | 171 => 144 | 0 => 0 | 53 => 145 | 37 => 52 | 5 => 5 | 173 => 148 | 212 => 158 | 51 => 159 | 20 => 20 | 213 => 160 | 46 => 162 | 232 => 166 | 233 => 167 | n => n, fun | 17 => 0 | 18 => 1 | 19 => 2 | n => n⟩
theorem Tryd.laysM246 : Go.Proofs.LaysM.n246 Tryd.prog Tryd.laysM246_ren := {
  mixed := by kernel_rfl
  f129 := Tryd.func122.trans (congrArg some (by kernel_rfl))
  f246 := Tryd.func101.trans (congrArg some (by kernel_rfl))
  f283 := Tryd.func111.trans (congrArg some (by kernel_rfl))
  f284 := Tryd.func112.trans (congrArg some (by kernel_rfl))
  f285 := Tryd.func113.trans (congrArg some (by kernel_rfl))
  f286 := Tryd.func114.trans (congrArg some (by kernel_rfl))
  f317 := Tryd.func121.trans (congrArg some (by kernel_rfl))
  f318 := Tryd.func123.trans (congrArg some (by kernel_rfl))
  f319 := Tryd.func124.trans (congrArg some (by kernel_rfl))
  f320 := Tryd.func125.trans (congrArg some (by kernel_rfl))
  f337 := Tryd.func127.trans (congrArg some (by kernel_rfl))
  f338 := Tryd.func128.trans (congrArg some (by kernel_rfl))
  t0 := Tryd.underlying0
  a0 := Tryd.isAgg0
  z0 := Tryd.sizeOf0
  v0 := Tryd.zeroValue0
  t2 := Tryd.underlying2
  a2 := Tryd.isAgg2
  z2 := Tryd.sizeOf2
  v2 := Tryd.zeroValue2
  t3 := Tryd.underlying3
  a3 := Tryd.isAgg3
  z3 := Tryd.sizeOf3
  v3 := Tryd.zeroValue3
  t4 := Tryd.underlying4
  a4 := Tryd.isAgg4
  z4 := Tryd.sizeOf4
  v4 := Tryd.zeroValue4
  t5 := Tryd.underlying5
  a5 := Tryd.isAgg5
  z5 := Tryd.sizeOf5
  v5 := Tryd.zeroValue5
  t9 := Tryd.underlying9
  a9 := Tryd.isAgg9
  z9 := Tryd.sizeOf9
  v9 := Tryd.zeroValue9
  t20 := Tryd.underlying20
  a20 := Tryd.isAgg20
  z20 := Tryd.sizeOf20
  v20 := Tryd.zeroValue20
  t37 := Tryd.underlying52
  a37 := Tryd.isAgg52
  z37 := Tryd.sizeOf52
  v37 := Tryd.zeroValue52
  t46 := Tryd.underlying162
  a46 := Tryd.isAgg162
  z46 := Tryd.sizeOf162
  v46 := Tryd.zeroValue162
  t51 := Tryd.underlying159
  a51 := Tryd.isAgg159
  z51 := Tryd.sizeOf159
  v51 := Tryd.zeroValue159
  t53 := Tryd.underlying145
  a53 := Tryd.isAgg145
  z53 := Tryd.sizeOf145
  v53 := Tryd.zeroValue145
  t171 := Tryd.underlying144
  a171 := Tryd.isAgg144
  z171 := Tryd.sizeOf144
  v171 := Tryd.zeroValue144
  t173 := Tryd.underlying148
  a173 := Tryd.isAgg148
  z173 := Tryd.sizeOf148
  v173 := Tryd.zeroValue148
  t212 := Tryd.underlying158
  a212 := Tryd.isAgg158
  z212 := Tryd.sizeOf158
  v212 := Tryd.zeroValue158
  t213 := Tryd.underlying160
  a213 := Tryd.isAgg160
  z213 := Tryd.sizeOf160
  t232 := Tryd.underlying166
  a232 := Tryd.isAgg166
  z232 := Tryd.sizeOf166
  v232 := Tryd.zeroValue166
  t233 := Tryd.underlying167
  a233 := Tryd.isAgg167
  z233 := Tryd.sizeOf167
  v233 := Tryd.zeroValue167
  g17 := by kernel_rfl
  g18 := by kernel_rfl
  g19 := by kernel_rfl
  i0 := by kernel_rfl
  i2 := by kernel_rfl
  i3 := by kernel_rfl
  i4 := by kernel_rfl
  i5 := by kernel_rfl
  i9 := by kernel_rfl
  i20 := by kernel_rfl
  i37 := by kernel_rfl
  i46 := by kernel_rfl
  i51 := by kernel_rfl
  i53 := by kernel_rfl
  i171 := by kernel_rfl
  i173 := by kernel_rfl
  i212 := by kernel_rfl
  i232 := by kernel_rfl
  i233 := by kernel_rfl
  m17 := by kernel_rfl
  m18 := by kernel_rfl
  m19 := by kernel_rfl }
open Go.RowKit Go.Sort Go.Lib in
/-- internal/strconv.FormatInt: "FormatInt returns the string representation of i in the given base": AT BASE 10: i's decimal numeral, for every int64. The world behind the call: the world before it, new blocks behind the heap, draws. (LAID: no walk: one application.) -/
theorem Tryd.internal_strconv_FormatInt_10 (n : Int) (h0 : -9223372036854775808 ≤ n) (h1 : n ≤ 9223372036854775807) (w : World) (htab : Lib.TabIs Tryd.prog w "internal/strconv.uint64pow10" .u64 Lib.pow10Tab) :
    Calls Tryd.prog 101 #[.int .i64 n, .int .i64 10] w fun e w' => e = .returned (.string ⟨(Lib.itoa n).toArray⟩) ∧ ∃ k os, w' = grow (w.drewN k) os := Any.internal_strconv_FormatInt_10 Tryd.laysM246 n h0 h1 w htab
def Tryd.lays246_ren : Go.Shelf.Ren := ⟨fun | 246 => 101 | 283 => 111 | 284 => 112 | 285 => 113 | 286 => 114 | 129 => 122 | 317 => 121 | 318 => 123 | 319 => 124 | 320 => 125 | 337 => 127 | 338 => 128 | n => n, fun | 2 => 2 | 3 => 3 | 9 => 9 | 4 => 4 | 171 => 144 | 0 => 0 | 53 => 145 | 37 => 52 | 5 => 5 | 173 => 148 | 212 => 158 | 51 => 159 | 20 => 20 | 213 => 160 | 46 => 162 | 232 => 166 | 233 => 167 | n => n, fun | 17 => 0 | 18 => 1 | 19 => 2 | n => n⟩
theorem Tryd.lays246 : Go.Proofs.Lays.n246 Tryd.prog Tryd.lays246_ren := {
  mixed := by kernel_rfl
  f129 := Tryd.func122.trans (congrArg some (by kernel_rfl))
  f246 := Tryd.func101.trans (congrArg some (by kernel_rfl))
  f283 := Tryd.func111.trans (congrArg some (by kernel_rfl))
  f284 := Tryd.func112.trans (congrArg some (by kernel_rfl))
  f285 := Tryd.func113.trans (congrArg some (by kernel_rfl))
  f286 := Tryd.func114.trans (congrArg some (by kernel_rfl))
  f317 := Tryd.func121.trans (congrArg some (by kernel_rfl))
  f318 := Tryd.func123.trans (congrArg some (by kernel_rfl))
  f319 := Tryd.func124.trans (congrArg some (by kernel_rfl))
  f320 := Tryd.func125.trans (congrArg some (by kernel_rfl))
  f337 := Tryd.func127.trans (congrArg some (by kernel_rfl))
  f338 := Tryd.func128.trans (congrArg some (by kernel_rfl))
  t0 := Tryd.underlying0
  a0 := Tryd.isAgg0
  z0 := Tryd.sizeOf0
  v0 := Tryd.zeroValue0
  t2 := Tryd.underlying2
  a2 := Tryd.isAgg2
  z2 := Tryd.sizeOf2
  v2 := Tryd.zeroValue2
  t3 := Tryd.underlying3
  a3 := Tryd.isAgg3
  z3 := Tryd.sizeOf3
  v3 := Tryd.zeroValue3
  t4 := Tryd.underlying4
  a4 := Tryd.isAgg4
  z4 := Tryd.sizeOf4
  v4 := Tryd.zeroValue4
  t5 := Tryd.underlying5
  a5 := Tryd.isAgg5
  z5 := Tryd.sizeOf5
  v5 := Tryd.zeroValue5
  t9 := Tryd.underlying9
  a9 := Tryd.isAgg9
  z9 := Tryd.sizeOf9
  v9 := Tryd.zeroValue9
  t20 := Tryd.underlying20
  a20 := Tryd.isAgg20
  z20 := Tryd.sizeOf20
  v20 := Tryd.zeroValue20
  t37 := Tryd.underlying52
  a37 := Tryd.isAgg52
  z37 := Tryd.sizeOf52
  v37 := Tryd.zeroValue52
  t46 := Tryd.underlying162
  a46 := Tryd.isAgg162
  z46 := Tryd.sizeOf162
  v46 := Tryd.zeroValue162
  t51 := Tryd.underlying159
  a51 := Tryd.isAgg159
  z51 := Tryd.sizeOf159
  v51 := Tryd.zeroValue159
  t53 := Tryd.underlying145
  a53 := Tryd.isAgg145
  z53 := Tryd.sizeOf145
  v53 := Tryd.zeroValue145
  t171 := Tryd.underlying144
  a171 := Tryd.isAgg144
  z171 := Tryd.sizeOf144
  v171 := Tryd.zeroValue144
  t173 := Tryd.underlying148
  a173 := Tryd.isAgg148
  z173 := Tryd.sizeOf148
  v173 := Tryd.zeroValue148
  t212 := Tryd.underlying158
  a212 := Tryd.isAgg158
  z212 := Tryd.sizeOf158
  v212 := Tryd.zeroValue158
  t213 := Tryd.underlying160
  a213 := Tryd.isAgg160
  z213 := Tryd.sizeOf160
  t232 := Tryd.underlying166
  a232 := Tryd.isAgg166
  z232 := Tryd.sizeOf166
  v232 := Tryd.zeroValue166
  t233 := Tryd.underlying167
  a233 := Tryd.isAgg167
  z233 := Tryd.sizeOf167
  v233 := Tryd.zeroValue167
  g17 := by kernel_rfl
  g18 := by kernel_rfl
  g19 := by kernel_rfl }
open Go.RowKit Go.Sort Go.Lib in
/-- THE ROAD WITHOUT THE TABLE: 0 <= i < 100: two constants are read, nothing is laid: no premise on the world, and the world is as it was. (LAID: no walk: one application.) -/
theorem Tryd.internal_strconv_FormatInt_10_small (i : Nat) (hi : i < 100) (w : World) :
    Calls Tryd.prog 101 #[.int .i64 i, .int .i64 10] w fun e w' => e = .returned (.string ⟨(Lib.decDigits i).toArray⟩) ∧ w' = w := Any.internal_strconv_FormatInt_10_small Tryd.lays246 i hi w
def Tryd.laysM243_ren : Go.Shelf.Ren := ⟨fun | 243 => 89 | 246 => 101 | 283 => 111 | 284 => 112 | 285 => 113 | 286 => 114 | 129 => 122 | 317 => 121 | 318 => 123 | 319 => 124 | 320 => 125 | 337 => 127 | 338 => 128 | n => n, fun | 3 => 3 | 9 => 9 | 2 => 2 | 4 => 4 | 171 => 144 | 0 => 0 | 53 => 145 | 37 => 52 | 5 => 5 | 173 => 148 | 212 => 158 | 51 => 159 | 20 => 20 | 213 => 160 | 46 => 162 | 232 => 166 | 233 => 167 | n => n, fun | 17 => 0 | 18 => 1 | 19 => 2 | n => n⟩
theorem Tryd.laysM243 : Go.Proofs.LaysM.n243 Tryd.prog Tryd.laysM243_ren := {
  mixed := by kernel_rfl
  f129 := Tryd.func122.trans (congrArg some (by kernel_rfl))
  f243 := Tryd.func89.trans (congrArg some (by kernel_rfl))
  f246 := Tryd.func101.trans (congrArg some (by kernel_rfl))
  f283 := Tryd.func111.trans (congrArg some (by kernel_rfl))
  f284 := Tryd.func112.trans (congrArg some (by kernel_rfl))
  f285 := Tryd.func113.trans (congrArg some (by kernel_rfl))
  f286 := Tryd.func114.trans (congrArg some (by kernel_rfl))
  f317 := Tryd.func121.trans (congrArg some (by kernel_rfl))
  f318 := Tryd.func123.trans (congrArg some (by kernel_rfl))
  f319 := Tryd.func124.trans (congrArg some (by kernel_rfl))
  f320 := Tryd.func125.trans (congrArg some (by kernel_rfl))
  f337 := Tryd.func127.trans (congrArg some (by kernel_rfl))
  f338 := Tryd.func128.trans (congrArg some (by kernel_rfl))
  t0 := Tryd.underlying0
  a0 := Tryd.isAgg0
  z0 := Tryd.sizeOf0
  v0 := Tryd.zeroValue0
  t2 := Tryd.underlying2
  a2 := Tryd.isAgg2
  z2 := Tryd.sizeOf2
  v2 := Tryd.zeroValue2
  t3 := Tryd.underlying3
  a3 := Tryd.isAgg3
  z3 := Tryd.sizeOf3
  v3 := Tryd.zeroValue3
  t4 := Tryd.underlying4
  a4 := Tryd.isAgg4
  z4 := Tryd.sizeOf4
  v4 := Tryd.zeroValue4
  t5 := Tryd.underlying5
  a5 := Tryd.isAgg5
  z5 := Tryd.sizeOf5
  v5 := Tryd.zeroValue5
  t9 := Tryd.underlying9
  a9 := Tryd.isAgg9
  z9 := Tryd.sizeOf9
  v9 := Tryd.zeroValue9
  t20 := Tryd.underlying20
  a20 := Tryd.isAgg20
  z20 := Tryd.sizeOf20
  v20 := Tryd.zeroValue20
  t37 := Tryd.underlying52
  a37 := Tryd.isAgg52
  z37 := Tryd.sizeOf52
  v37 := Tryd.zeroValue52
  t46 := Tryd.underlying162
  a46 := Tryd.isAgg162
  z46 := Tryd.sizeOf162
  v46 := Tryd.zeroValue162
  t51 := Tryd.underlying159
  a51 := Tryd.isAgg159
  z51 := Tryd.sizeOf159
  v51 := Tryd.zeroValue159
  t53 := Tryd.underlying145
  a53 := Tryd.isAgg145
  z53 := Tryd.sizeOf145
  v53 := Tryd.zeroValue145
  t171 := Tryd.underlying144
  a171 := Tryd.isAgg144
  z171 := Tryd.sizeOf144
  v171 := Tryd.zeroValue144
  t173 := Tryd.underlying148
  a173 := Tryd.isAgg148
  z173 := Tryd.sizeOf148
  v173 := Tryd.zeroValue148
  t212 := Tryd.underlying158
  a212 := Tryd.isAgg158
  z212 := Tryd.sizeOf158
  v212 := Tryd.zeroValue158
  t213 := Tryd.underlying160
  a213 := Tryd.isAgg160
  z213 := Tryd.sizeOf160
  t232 := Tryd.underlying166
  a232 := Tryd.isAgg166
  z232 := Tryd.sizeOf166
  v232 := Tryd.zeroValue166
  t233 := Tryd.underlying167
  a233 := Tryd.isAgg167
  z233 := Tryd.sizeOf167
  v233 := Tryd.zeroValue167
  g17 := by kernel_rfl
  g18 := by kernel_rfl
  g19 := by kernel_rfl
  i0 := by kernel_rfl
  i2 := by kernel_rfl
  i3 := by kernel_rfl
  i4 := by kernel_rfl
  i5 := by kernel_rfl
  i9 := by kernel_rfl
  i20 := by kernel_rfl
  i37 := by kernel_rfl
  i46 := by kernel_rfl
  i51 := by kernel_rfl
  i53 := by kernel_rfl
  i171 := by kernel_rfl
  i173 := by kernel_rfl
  i212 := by kernel_rfl
  i232 := by kernel_rfl
  i233 := by kernel_rfl
  m17 := by kernel_rfl
  m18 := by kernel_rfl
  m19 := by kernel_rfl }
open Go.RowKit Go.Sort Go.Lib in
/-- internal/strconv.Itoa: "Itoa is equivalent to FormatInt(int64(i), 10).": i's decimal numeral, for every int. (LAID: no walk: one application.) -/
theorem Tryd.internal_strconv_Itoa (n : Int) (h0 : -9223372036854775808 ≤ n) (h1 : n ≤ 9223372036854775807) (w : World) (htab : Lib.TabIs Tryd.prog w "internal/strconv.uint64pow10" .u64 Lib.pow10Tab) :
    Calls Tryd.prog 89 #[.int .i64 n] w fun e w' => e = .returned (.string ⟨(Lib.itoa n).toArray⟩) ∧ ∃ k os, w' = grow (w.drewN k) os := Any.internal_strconv_Itoa Tryd.laysM243 n h0 h1 w htab
def Tryd.lays243_ren : Go.Shelf.Ren := ⟨fun | 243 => 89 | 246 => 101 | 283 => 111 | 284 => 112 | 285 => 113 | 286 => 114 | 129 => 122 | 317 => 121 | 318 => 123 | 319 => 124 | 320 => 125 | 337 => 127 | 338 => 128 | n => n, fun | 3 => 3 | 9 => 9 | 2 => 2 | 4 => 4 | 171 => 144 | 0 => 0 | 53 => 145 | 37 => 52 | 5 => 5 | 173 => 148 | 212 => 158 | 51 => 159 | 20 => 20 | 213 => 160 | 46 => 162 | 232 => 166 | 233 => 167 | n => n, fun | 17 => 0 | 18 => 1 | 19 => 2 | n => n⟩
theorem Tryd.lays243 : Go.Proofs.Lays.n243 Tryd.prog Tryd.lays243_ren := {
  mixed := by kernel_rfl
  f129 := Tryd.func122.trans (congrArg some (by kernel_rfl))
  f243 := Tryd.func89.trans (congrArg some (by kernel_rfl))
  f246 := Tryd.func101.trans (congrArg some (by kernel_rfl))
  f283 := Tryd.func111.trans (congrArg some (by kernel_rfl))
  f284 := Tryd.func112.trans (congrArg some (by kernel_rfl))
  f285 := Tryd.func113.trans (congrArg some (by kernel_rfl))
  f286 := Tryd.func114.trans (congrArg some (by kernel_rfl))
  f317 := Tryd.func121.trans (congrArg some (by kernel_rfl))
  f318 := Tryd.func123.trans (congrArg some (by kernel_rfl))
  f319 := Tryd.func124.trans (congrArg some (by kernel_rfl))
  f320 := Tryd.func125.trans (congrArg some (by kernel_rfl))
  f337 := Tryd.func127.trans (congrArg some (by kernel_rfl))
  f338 := Tryd.func128.trans (congrArg some (by kernel_rfl))
  t0 := Tryd.underlying0
  a0 := Tryd.isAgg0
  z0 := Tryd.sizeOf0
  v0 := Tryd.zeroValue0
  t2 := Tryd.underlying2
  a2 := Tryd.isAgg2
  z2 := Tryd.sizeOf2
  v2 := Tryd.zeroValue2
  t3 := Tryd.underlying3
  a3 := Tryd.isAgg3
  z3 := Tryd.sizeOf3
  v3 := Tryd.zeroValue3
  t4 := Tryd.underlying4
  a4 := Tryd.isAgg4
  z4 := Tryd.sizeOf4
  v4 := Tryd.zeroValue4
  t5 := Tryd.underlying5
  a5 := Tryd.isAgg5
  z5 := Tryd.sizeOf5
  v5 := Tryd.zeroValue5
  t9 := Tryd.underlying9
  a9 := Tryd.isAgg9
  z9 := Tryd.sizeOf9
  v9 := Tryd.zeroValue9
  t20 := Tryd.underlying20
  a20 := Tryd.isAgg20
  z20 := Tryd.sizeOf20
  v20 := Tryd.zeroValue20
  t37 := Tryd.underlying52
  a37 := Tryd.isAgg52
  z37 := Tryd.sizeOf52
  v37 := Tryd.zeroValue52
  t46 := Tryd.underlying162
  a46 := Tryd.isAgg162
  z46 := Tryd.sizeOf162
  v46 := Tryd.zeroValue162
  t51 := Tryd.underlying159
  a51 := Tryd.isAgg159
  z51 := Tryd.sizeOf159
  v51 := Tryd.zeroValue159
  t53 := Tryd.underlying145
  a53 := Tryd.isAgg145
  z53 := Tryd.sizeOf145
  v53 := Tryd.zeroValue145
  t171 := Tryd.underlying144
  a171 := Tryd.isAgg144
  z171 := Tryd.sizeOf144
  v171 := Tryd.zeroValue144
  t173 := Tryd.underlying148
  a173 := Tryd.isAgg148
  z173 := Tryd.sizeOf148
  v173 := Tryd.zeroValue148
  t212 := Tryd.underlying158
  a212 := Tryd.isAgg158
  z212 := Tryd.sizeOf158
  v212 := Tryd.zeroValue158
  t213 := Tryd.underlying160
  a213 := Tryd.isAgg160
  z213 := Tryd.sizeOf160
  t232 := Tryd.underlying166
  a232 := Tryd.isAgg166
  z232 := Tryd.sizeOf166
  v232 := Tryd.zeroValue166
  t233 := Tryd.underlying167
  a233 := Tryd.isAgg167
  z233 := Tryd.sizeOf167
  v233 := Tryd.zeroValue167
  g17 := by kernel_rfl
  g18 := by kernel_rfl
  g19 := by kernel_rfl }
open Go.RowKit Go.Sort Go.Lib in
/-- THE ROAD WITHOUT THE TABLE: 0 <= i < 100. (LAID: no walk: one application.) -/
theorem Tryd.internal_strconv_Itoa_small (i : Nat) (hi : i < 100) (w : World) :
    Calls Tryd.prog 89 #[.int .i64 i] w fun e w' => e = .returned (.string ⟨(Lib.decDigits i).toArray⟩) ∧ w' = w := Any.internal_strconv_Itoa_small Tryd.lays243 i hi w
def Tryd.laysM171_ren : Go.Shelf.Ren := ⟨fun | 171 => 62 | 243 => 89 | 246 => 101 | 283 => 111 | 284 => 112 | 285 => 113 | 286 => 114 | 129 => 122 | 317 => 121 | 318 => 123 | 319 => 124 | 320 => 125 | 337 => 127 | 338 => 128 | n => n, fun | 3 => 3 | 9 => 9 | 2 => 2 | 4 => 4 | 171 => 144 | 0 => 0 | 53 => 145 | 37 => 52 | 5 => 5 | 173 => 148 | 212 => 158 | 51 => 159 | 20 => 20 | 213 => 160 | 46 => 162 | 232 => 166 | 233 => 167 | n => n, fun | 17 => 0 | 18 => 1 | 19 => 2 | n => n⟩
theorem Tryd.laysM171 : Go.Proofs.LaysM.n171 Tryd.prog Tryd.laysM171_ren := {
  mixed := by kernel_rfl
  f129 := Tryd.func122.trans (congrArg some (by kernel_rfl))
  f171 := Tryd.func62.trans (congrArg some (by kernel_rfl))
  f243 := Tryd.func89.trans (congrArg some (by kernel_rfl))
  f246 := Tryd.func101.trans (congrArg some (by kernel_rfl))
  f283 := Tryd.func111.trans (congrArg some (by kernel_rfl))
  f284 := Tryd.func112.trans (congrArg some (by kernel_rfl))
  f285 := Tryd.func113.trans (congrArg some (by kernel_rfl))
  f286 := Tryd.func114.trans (congrArg some (by kernel_rfl))
  f317 := Tryd.func121.trans (congrArg some (by kernel_rfl))
  f318 := Tryd.func123.trans (congrArg some (by kernel_rfl))
  f319 := Tryd.func124.trans (congrArg some (by kernel_rfl))
  f320 := Tryd.func125.trans (congrArg some (by kernel_rfl))
  f337 := Tryd.func127.trans (congrArg some (by kernel_rfl))
  f338 := Tryd.func128.trans (congrArg some (by kernel_rfl))
  t0 := Tryd.underlying0
  a0 := Tryd.isAgg0
  z0 := Tryd.sizeOf0
  v0 := Tryd.zeroValue0
  t2 := Tryd.underlying2
  a2 := Tryd.isAgg2
  z2 := Tryd.sizeOf2
  v2 := Tryd.zeroValue2
  t3 := Tryd.underlying3
  a3 := Tryd.isAgg3
  z3 := Tryd.sizeOf3
  v3 := Tryd.zeroValue3
  t4 := Tryd.underlying4
  a4 := Tryd.isAgg4
  z4 := Tryd.sizeOf4
  v4 := Tryd.zeroValue4
  t5 := Tryd.underlying5
  a5 := Tryd.isAgg5
  z5 := Tryd.sizeOf5
  v5 := Tryd.zeroValue5
  t9 := Tryd.underlying9
  a9 := Tryd.isAgg9
  z9 := Tryd.sizeOf9
  v9 := Tryd.zeroValue9
  t20 := Tryd.underlying20
  a20 := Tryd.isAgg20
  z20 := Tryd.sizeOf20
  v20 := Tryd.zeroValue20
  t37 := Tryd.underlying52
  a37 := Tryd.isAgg52
  z37 := Tryd.sizeOf52
  v37 := Tryd.zeroValue52
  t46 := Tryd.underlying162
  a46 := Tryd.isAgg162
  z46 := Tryd.sizeOf162
  v46 := Tryd.zeroValue162
  t51 := Tryd.underlying159
  a51 := Tryd.isAgg159
  z51 := Tryd.sizeOf159
  v51 := Tryd.zeroValue159
  t53 := Tryd.underlying145
  a53 := Tryd.isAgg145
  z53 := Tryd.sizeOf145
  v53 := Tryd.zeroValue145
  t171 := Tryd.underlying144
  a171 := Tryd.isAgg144
  z171 := Tryd.sizeOf144
  v171 := Tryd.zeroValue144
  t173 := Tryd.underlying148
  a173 := Tryd.isAgg148
  z173 := Tryd.sizeOf148
  v173 := Tryd.zeroValue148
  t212 := Tryd.underlying158
  a212 := Tryd.isAgg158
  z212 := Tryd.sizeOf158
  v212 := Tryd.zeroValue158
  t213 := Tryd.underlying160
  a213 := Tryd.isAgg160
  z213 := Tryd.sizeOf160
  t232 := Tryd.underlying166
  a232 := Tryd.isAgg166
  z232 := Tryd.sizeOf166
  v232 := Tryd.zeroValue166
  t233 := Tryd.underlying167
  a233 := Tryd.isAgg167
  z233 := Tryd.sizeOf167
  v233 := Tryd.zeroValue167
  g17 := by kernel_rfl
  g18 := by kernel_rfl
  g19 := by kernel_rfl
  i0 := by kernel_rfl
  i2 := by kernel_rfl
  i3 := by kernel_rfl
  i4 := by kernel_rfl
  i5 := by kernel_rfl
  i9 := by kernel_rfl
  i20 := by kernel_rfl
  i37 := by kernel_rfl
  i46 := by kernel_rfl
  i51 := by kernel_rfl
  i53 := by kernel_rfl
  i171 := by kernel_rfl
  i173 := by kernel_rfl
  i212 := by kernel_rfl
  i232 := by kernel_rfl
  i233 := by kernel_rfl
  m17 := by kernel_rfl
  m18 := by kernel_rfl
  m19 := by kernel_rfl }
open Go.RowKit Go.Sort Go.Lib in
/-- strconv.Itoa: "Itoa is equivalent to FormatInt(int64(i), 10).": i's DECIMAL NUMERAL ('Lib.itoa': a '-' where i is negative, then the digits), FOR EVERY int. The world behind the call: the world before it, new blocks behind the heap (the library's 'var a [24]byte'), draws. (LAID: no walk: one application.) -/
theorem Tryd.strconv_Itoa (n : Int) (h0 : -9223372036854775808 ≤ n) (h1 : n ≤ 9223372036854775807) (w : World) (htab : Lib.TabIs Tryd.prog w "internal/strconv.uint64pow10" .u64 Lib.pow10Tab) :
    Calls Tryd.prog 62 #[.int .i64 n] w fun e w' => e = .returned (.string ⟨(Lib.itoa n).toArray⟩) ∧ ∃ k os, w' = grow (w.drewN k) os := Any.strconv_Itoa Tryd.laysM171 n h0 h1 w htab
def Tryd.lays171_ren : Go.Shelf.Ren := ⟨fun | 171 => 62 | 243 => 89 | 246 => 101 | 283 => 111 | 284 => 112 | 285 => 113 | 286 => 114 | 129 => 122 | 317 => 121 | 318 => 123 | 319 => 124 | 320 => 125 | 337 => 127 | 338 => 128 | n => n, fun | 3 => 3 | 9 => 9 | 2 => 2 | 4 => 4 | 171 => 144 | 0 => 0 | 53 => 145 | 37 => 52 | 5 => 5 | 173 => 148 | 212 => 158 | 51 => 159 | 20 => 20 | 213 => 160 | 46 => 162 | 232 => 166 | 233 => 167 | n => n, fun | 17 => 0 | 18 => 1 | 19 => 2 | n => n⟩
theorem Tryd.lays171 : Go.Proofs.Lays.n171 Tryd.prog Tryd.lays171_ren := {
  mixed := by kernel_rfl
  f129 := Tryd.func122.trans (congrArg some (by kernel_rfl))
  f171 := Tryd.func62.trans (congrArg some (by kernel_rfl))
  f243 := Tryd.func89.trans (congrArg some (by kernel_rfl))
  f246 := Tryd.func101.trans (congrArg some (by kernel_rfl))
  f283 := Tryd.func111.trans (congrArg some (by kernel_rfl))
  f284 := Tryd.func112.trans (congrArg some (by kernel_rfl))
  f285 := Tryd.func113.trans (congrArg some (by kernel_rfl))
  f286 := Tryd.func114.trans (congrArg some (by kernel_rfl))
  f317 := Tryd.func121.trans (congrArg some (by kernel_rfl))
  f318 := Tryd.func123.trans (congrArg some (by kernel_rfl))
  f319 := Tryd.func124.trans (congrArg some (by kernel_rfl))
  f320 := Tryd.func125.trans (congrArg some (by kernel_rfl))
  f337 := Tryd.func127.trans (congrArg some (by kernel_rfl))
  f338 := Tryd.func128.trans (congrArg some (by kernel_rfl))
  t0 := Tryd.underlying0
  a0 := Tryd.isAgg0
  z0 := Tryd.sizeOf0
  v0 := Tryd.zeroValue0
  t2 := Tryd.underlying2
  a2 := Tryd.isAgg2
  z2 := Tryd.sizeOf2
  v2 := Tryd.zeroValue2
  t3 := Tryd.underlying3
  a3 := Tryd.isAgg3
  z3 := Tryd.sizeOf3
  v3 := Tryd.zeroValue3
  t4 := Tryd.underlying4
  a4 := Tryd.isAgg4
  z4 := Tryd.sizeOf4
  v4 := Tryd.zeroValue4
  t5 := Tryd.underlying5
  a5 := Tryd.isAgg5
  z5 := Tryd.sizeOf5
  v5 := Tryd.zeroValue5
  t9 := Tryd.underlying9
  a9 := Tryd.isAgg9
  z9 := Tryd.sizeOf9
  v9 := Tryd.zeroValue9
  t20 := Tryd.underlying20
  a20 := Tryd.isAgg20
  z20 := Tryd.sizeOf20
  v20 := Tryd.zeroValue20
  t37 := Tryd.underlying52
  a37 := Tryd.isAgg52
  z37 := Tryd.sizeOf52
  v37 := Tryd.zeroValue52
  t46 := Tryd.underlying162
  a46 := Tryd.isAgg162
  z46 := Tryd.sizeOf162
  v46 := Tryd.zeroValue162
  t51 := Tryd.underlying159
  a51 := Tryd.isAgg159
  z51 := Tryd.sizeOf159
  v51 := Tryd.zeroValue159
  t53 := Tryd.underlying145
  a53 := Tryd.isAgg145
  z53 := Tryd.sizeOf145
  v53 := Tryd.zeroValue145
  t171 := Tryd.underlying144
  a171 := Tryd.isAgg144
  z171 := Tryd.sizeOf144
  v171 := Tryd.zeroValue144
  t173 := Tryd.underlying148
  a173 := Tryd.isAgg148
  z173 := Tryd.sizeOf148
  v173 := Tryd.zeroValue148
  t212 := Tryd.underlying158
  a212 := Tryd.isAgg158
  z212 := Tryd.sizeOf158
  v212 := Tryd.zeroValue158
  t213 := Tryd.underlying160
  a213 := Tryd.isAgg160
  z213 := Tryd.sizeOf160
  t232 := Tryd.underlying166
  a232 := Tryd.isAgg166
  z232 := Tryd.sizeOf166
  v232 := Tryd.zeroValue166
  t233 := Tryd.underlying167
  a233 := Tryd.isAgg167
  z233 := Tryd.sizeOf167
  v233 := Tryd.zeroValue167
  g17 := by kernel_rfl
  g18 := by kernel_rfl
  g19 := by kernel_rfl }
open Go.RowKit Go.Sort Go.Lib in
/-- THE ROAD WITHOUT THE TABLE: 0 <= i < 100: NO PREMISE ON THE WORLD, AND THE WORLD IS AS IT WAS: a row that keeps its argument in that range need list no table ('laid = []'). (LAID: no walk: one application.) -/
theorem Tryd.strconv_Itoa_small (i : Nat) (hi : i < 100) (w : World) :
    Calls Tryd.prog 62 #[.int .i64 i] w fun e w' => e = .returned (.string ⟨(Lib.decDigits i).toArray⟩) ∧ w' = w := Any.strconv_Itoa_small Tryd.lays171 i hi w
end Go.Proofs

/- Decimals by either hand; how a text is cut into blocks. -/
set_option linter.unusedVariables false
set_option linter.unusedSimpArgs false
namespace Go.Proofs.YtkndffhcncmbjaaDoor
open Go Go.Av Go.RowKit

theorem nums_dig (n : Nat) : strOfNums [((48 + n % 10 : Nat) : Int)] = ofL [dig n] := by
  have h := bl_byte (48 + n % 10)
  rw [Nat.mod_eq_of_lt (by omega)] at h
  exact bl_inj (by rw [h, bl_ofL]; rfl)
theorem pUn_neg {n : Int} {K : Value → Prop} (h : -9223372036854775807 ≤ n ∧ n ≤ 9223372036854775807) : pUn .neg (.int .i64 n) K ↔ K (.int .i64 (-n)) := by
  have e : aun .neg (.int .i64 n) = some (.int .i64 (-n)) := by
    show some (Value.int .i64 (IntKind.i64.wrap (0 - n))) = _
    rw [IntWalk.i64_in (0 - n) (by omega), Int.zero_sub]
  exact ⟨fun ⟨_, h', hK⟩ => by rw [e] at h'; cases h'; exact hK, fun hK => ⟨_, e, hK⟩⟩
theorem dec_min : decZ (-9223372036854775808) = minText := by
  have : decL 9223372036854775808 = [57, 50, 50, 51, 51, 55, 50, 48, 51, 54, 56, 53, 52, 55, 55, 53, 56, 48, 56] := by
    simp [decL_big, decL_small, dig]
  unfold decZ
  rw [if_pos (by omega)]
  have e : (-(-9223372036854775808 : Int)).toNat = 9223372036854775808 := rfl
  rw [e, decN, this]
  rfl
theorem decN_big {k : Nat} (h : ¬ k < 10) : decN k = decN (k / 10) ++ ofL [dig k] := by
  rw [decN, decL_big h, ← ofL_append]; rfl

section
variable {w0 : World} {σ : Vw}

theorem dec_row {σ' : Vw} {k : Nat} {K : Vw → Value → Prop} (hK : ∀ s, Keeps σ' s → K s (.string (ofL [dig k]))) : pNew w0 5 [.int .u8 ((48 + k % 10 : Nat) : Int)] σ' (fun n s => pStr w0 (.slice (some (Addr.mk n 0 none)) 1 1) s (fun v => K s v)) := by
  intro b h1 h2
  refine pStr1 (by rw [get_row h1 put_at]; rfl) ?_
  rw [nums_dig]
  exact hK _ (Keeps.put h2)

theorem spec_l22Dec_nat : ∀ (k : Nat), k ≤ 9223372036854775807 → ∀ {σ : Vw} {R : Value → Vw → Prop}, (∀ σ', Keeps σ σ' → R (.string (decN k)) σ') → AC Tryd.prog w0 n_spec_l22Dec [.int .i64 (k : Nat)] σ R := by
  intro k
  induction k using Nat.strongRecOn with
  | _ k ih =>
    intro hk σ R hR
    refine ac_spec_l22Dec ?_
    unfold vc_spec_l22Dec
    rw [pBin_lt, pIf_d]
    refine ⟨fun h => by omega, fun _ => ?_⟩
    rw [pBin_lt, pIf_d]
    refine ⟨fun h => by omega, fun _ => ?_⟩
    rw [pBin_lt, pIf_d]
    refine ⟨fun h10 => ?_, fun h10 => ?_⟩
    · rw [pBin_add (by omega), pConv_u8 (by omega), pVal1 rfl, show (48 : Int) + (k : Nat) = ((48 + k % 10 : Nat) : Int) by omega]
      refine dec_row fun s k1 => ?_
      have := hR s k1
      rw [decN, decL_small (by omega)] at this
      exact this
    · have hb : ¬ k < 10 := by omega
      have hd := (decN_size (k / 10)).2
      rw [decN_big hb] at hR
      have hcat : ∀ K : Value → Prop, pBin Tryd.prog 9 .add (.string (decN (k / 10))) (.string (ofL [dig k])) K ↔ K (.string (decN (k / 10) ++ ofL [dig k])) := fun K => pBin_cat (by rw [size_ofL]; simp only [List.length_singleton]; omega)
      rw [pBin_quo (by omega), pBin_rem (by omega), pBin_add (by omega), pConv_u8 (by omega), show (48 : Int) + (k : Nat) % 10 = ((48 + k % 10 : Nat) : Int) by omega, show ((k : Nat) : Int) / 10 = ((k / 10 : Nat) : Int) by omega]
      refine ⟨ih (k / 10) (by omega) (by omega) fun s k1 => ?_, ?_⟩
      · rw [pVal1 rfl]
        refine dec_row fun s2 k2 => ?_
        rw [hcat]
        exact hR s2 (k1.trans k2)
      · rw [pVal1 rfl]
        refine dec_row fun s2 k2 => ?_
        refine ih (k / 10) (by omega) (by omega) fun s k1 => ⟨k1.ext, ?_⟩
        rw [hcat]
        exact hR s (k2.trans k1)

theorem spec_l22Dec {n : Int} {R : Value → Vw → Prop} (hn : -9223372036854775808 ≤ n ∧ n ≤ 9223372036854775807) (hR : ∀ σ', Keeps σ σ' → R (.string (decZ n)) σ') : AC Tryd.prog w0 n_spec_l22Dec [.int .i64 n] σ R := by
  by_cases h0 : 0 ≤ n
  · obtain ⟨k, rfl⟩ : ∃ k : Nat, n = k := ⟨n.toNat, by omega⟩
    rw [decZ_nat] at hR
    exact spec_l22Dec_nat k (by omega) hR
  refine ac_spec_l22Dec ?_
  unfold vc_spec_l22Dec
  rw [pBin_lt, pIf_d]
  refine ⟨fun h1 => ?_, fun h1 => ?_⟩
  · have : n = -9223372036854775808 := by omega
    subst this
    have := hR σ (Keeps.refl σ)
    rw [dec_min] at this
    exact this
  rw [pBin_lt, pIf_d]
  refine ⟨fun _ => ?_, fun h => by omega⟩
  rw [pUn_neg (by omega)]
  obtain ⟨k, hk⟩ : ∃ k : Nat, -n = k := ⟨(-n).toNat, by omega⟩
  rw [hk]
  have e : decZ n = ⟨#[45]⟩ ++ decN k := by
    unfold decZ
    rw [if_pos (by omega), hk, Int.toNat_natCast]
  rw [e] at hR
  refine spec_l22Dec_nat k (by omega) fun s k1 => ?_
  have hd := (decN_size k).2
  rw [pBin_cat (by show 1 + _ ≤ _; omega)]
  exact hR s k1

/-- The table that strconv reads stands as it is laid. -/
def Tab (w0 : World) : Prop := ∀ w, Below w0.heap.size w0 w → Lib.TabIs Tryd.prog w "internal/strconv.uint64pow10" .u64 Lib.pow10Tab
theorem itoa_decL : ∀ u : Nat, Lib.decDigits u = decL u := by
  intro u
  induction u using Nat.strongRecOn with
  | _ u ih =>
    rw [Lib.decDigits, decL]
    split
    · rename_i h
      congr 2
      omega
    · rw [ih (u / 10) (by omega)]; rfl
theorem itoa_dec (n : Int) : (⟨(Lib.itoa n).toArray⟩ : ByteArray) = decZ n := by
  show ofL (Lib.itoa n) = _
  unfold Lib.itoa decZ
  split
  · rw [itoa_decL, show (-n).toNat = n.natAbs by omega, decN]
    show ofL ([45] ++ decL n.natAbs) = ofL [45] ++ _
    rw [ofL_append]
  · rw [itoa_decL]; rfl
theorem strconv_Itoa (tab : Tab w0) {n : Int} {R : Value → Vw → Prop} (hn : -9223372036854775808 ≤ n ∧ n ≤ 9223372036854775807) (hR : R (.string (decZ n)) σ) : AC Tryd.prog w0 n_strconv_Itoa [.int .i64 n] σ R := by
  refine AC.of_calls is_strconv_Itoa fun w hw => ?_
  refine (Tryd.strconv_Itoa n hn.1 hn.2 w (tab w hw.bel)).mono ?_
  rintro e w' ⟨rfl, k, os, rfl⟩
  exact ⟨_, rfl, by rw [itoa_dec]; exact hR, Lib.below_grow _ _ (Nat.le_refl _) _ _⟩

/-! ### Blocks -/
def manyN (s : ByteArray) (size : Nat) : Nat := (s.size + size - 1) / size
def areaI (gen : Int) : Int := 14 + gen % 2 * 90
def pieceB (s : ByteArray) (i size : Nat) : ByteArray := s.extract (i * size) (min ((i + 1) * size) s.size)
def headB (gen : Int) (n : Nat) : ByteArray := ⟨#[67, 32]⟩ ++ decZ gen ++ ⟨#[32]⟩ ++ decN n

theorem many_le (s : ByteArray) {size : Nat} (h : 0 < size) : manyN s size ≤ s.size := by
  unfold manyN
  rcases Nat.eq_zero_or_pos s.size with e | e
  · rw [e, Nat.zero_add, Nat.div_eq_of_lt (by omega)]; exact Nat.le_refl _
  · refine Nat.div_le_of_le_mul ?_
    have : s.size * 1 ≤ size * s.size := by rw [Nat.mul_comm size]; exact Nat.mul_le_mul_left _ h
    have h2 : size * s.size ≥ s.size + size - 1 := by
      obtain ⟨a, rfl⟩ : ∃ a, size = a + 1 := ⟨size - 1, by omega⟩
      obtain ⟨b, hb⟩ : ∃ b, s.size = b + 1 := ⟨s.size - 1, by omega⟩
      rw [hb]
      have : (a + 1) * (b + 1) = a * b + a + b + 1 := by rw [Nat.add_mul, Nat.mul_add]; omega
      rw [this]; omega
    exact h2
theorem lt_many {s : ByteArray} {size i : Nat} (h : 0 < size) : i < manyN s size ↔ i * size < s.size := by
  unfold manyN
  constructor
  · intro hi
    have : (i + 1) * size ≤ s.size + size - 1 := (Nat.le_div_iff_mul_le h).1 hi
    rw [Nat.add_mul, Nat.one_mul] at this
    omega
  · intro hi
    refine (Nat.le_div_iff_mul_le h).2 ?_
    show (i + 1) * size ≤ _
    rw [Nat.add_mul, Nat.one_mul]; omega
theorem piece_size (s : ByteArray) (i size : Nat) : (pieceB s i size).size ≤ size := by
  unfold pieceB
  rw [ByteArray.size_extract]
  have : (i + 1) * size = i * size + size := by rw [Nat.add_mul, Nat.one_mul]
  omega

theorem spec_l22Many {s : ByteArray} {size : Nat} {R : Value → Vw → Prop} (hs : s.size ≤ 1000000000000) (h : 0 < size ∧ size ≤ 1000) (hR : R (.int .i64 (manyN s size : Nat)) σ) : AC Tryd.prog w0 n_spec_l22Many [.string s, .int .i64 (size : Nat)] σ R := by
  refine ac_spec_l22Many ?_
  unfold vc_spec_l22Many
  rw [pLenS_s, pBin_add (by omega), pBin_sub (by omega), pBin_quo (by omega)]
  have : ((s.size : Int) + (size : Nat) - 1) / (size : Nat) = (manyN s size : Nat) := by
    unfold manyN
    rw [Int.natCast_ediv]
    congr 1; omega
  rw [this]; exact hR
theorem impl_pieces' {s : ByteArray} {size : Nat} {R : Value → Vw → Prop} (hs : s.size ≤ 1000000000000) (h : 0 < size ∧ size ≤ 1000) (hR : R (.int .i64 (manyN s size : Nat)) σ) : AC Tryd.prog w0 n_impl_pieces [.int .i64 s.size, .int .i64 (size : Nat)] σ R := by
  refine ac_impl_pieces ?_
  unfold vc_impl_pieces
  rw [pBin_add (by omega), pBin_sub (by omega), pBin_quo (by omega)]
  have : ((s.size : Int) + (size : Nat) - 1) / (size : Nat) = (manyN s size : Nat) := by
    unfold manyN
    rw [Int.natCast_ediv]
    congr 1; omega
  rw [this]; exact hR
theorem spec_l22Area {gen : Int} {R : Value → Vw → Prop} (hg : 0 ≤ gen ∧ gen ≤ 1000000) (hR : R (.int .i64 (areaI gen)) σ) : AC Tryd.prog w0 n_spec_l22Area [.int .i64 gen] σ R := by
  refine ac_spec_l22Area ?_
  unfold vc_spec_l22Area
  rw [pBin_rem (by omega), pBin_mul (by omega), pBin_add (by omega)]
  exact hR
theorem impl_areaFirst {gen : Int} {R : Value → Vw → Prop} (hg : 0 ≤ gen ∧ gen ≤ 1000000) (hR : R (.int .i64 (areaI gen)) σ) : AC Tryd.prog w0 n_impl_areaFirst [.int .i64 gen] σ R := by
  refine ac_impl_areaFirst ?_
  unfold vc_impl_areaFirst
  rw [pBin_rem (by omega), pBin_mul (by omega), pBin_add (by omega)]
  exact hR
theorem mul_le {i : Nat} {size s : Nat} (h : i * size < s) (hs : s ≤ 1000000000000) (h0 : 0 < size) : i ≤ 1000000000000 := by
  have : i * 1 ≤ i * size := Nat.mul_le_mul_left _ h0
  omega
theorem spec_l22Piece {s : ByteArray} {i size : Nat} {R : Value → Vw → Prop} (hs : s.size ≤ 1000000000000) (h : 0 < size ∧ size ≤ 1000) (hi : i * size < s.size) (hR : R (.string (pieceB s i size)) σ) : AC Tryd.prog w0 n_spec_l22Piece [.string s, .int .i64 (i : Nat), .int .i64 (size : Nat)] σ R := by
  refine ac_spec_l22Piece ?_
  unfold vc_spec_l22Piece
  have e : ((i : Nat) : Int) * (size : Nat) = ((i * size : Nat) : Int) := by rw [Int.natCast_mul]
  have e2 : (i + 1) * size = i * size + size := by rw [Nat.add_mul, Nat.one_mul]
  rw [pBin_mul (by rw [e]; omega), e, pLenS_s, pBin_ge, pIf_d]
  refine ⟨fun h => by omega, fun _ => ?_⟩
  rw [pBin_add (by omega), pLenS_s, pBin_gt, pIf_d]
  refine ⟨fun hgt => ?_, fun hgt => ?_⟩
  · refine pSliceStr_s (l := ((i * size : Nat) : Int)) (h := s.size) rfl rfl (by omega) ?_
    have : pieceB s i size = s.extract (i * size) s.size := by unfold pieceB; rw [e2, Nat.min_eq_right (by omega)]
    rw [this] at hR
    rw [Int.toNat_natCast, Int.toNat_natCast]
    exact hR
  · rw [pBin_add (by omega)]
    refine pSliceStr_s (l := ((i * size : Nat) : Int)) (h := ((i * size : Nat) : Int) + (size : Nat)) rfl rfl (by omega) ?_
    have : pieceB s i size = s.extract (i * size) (i * size + size) := by unfold pieceB; rw [e2, Nat.min_eq_left (by omega)]
    rw [this] at hR
    have e3 : (((i * size : Nat) : Int) + (size : Nat)).toNat = i * size + size := by omega
    rw [e3, Int.toNat_natCast]
    exact hR
end
end Go.Proofs.YtkndffhcncmbjaaDoor

/- The law 'DiskWrite'; how disks and writes are opened. -/
set_option linter.unusedVariables false
set_option linter.unusedSimpArgs false
namespace Go.Proofs.YtkndffhcncmbjaaDoor
open Go Go.Av Go.RowKit

def RDisk (rd : Addr → Option Value) (es : List Value) (xs : List ByteArray) : Prop := ∃ v, es = [v] ∧ RSl 1 RS rd v xs

theorem cut1 {es : List Value} {a : Value} (hl : es.length = 1) (h0 : (es.drop 0).take 1 = [a]) : es = [a] := by
  match es, hl with
  | [p], _ => simp at h0; subst h0; rfl
theorem cut2 {es : List Value} {a b : Value} (hl : es.length = 2) (h0 : (es.drop 0).take 1 = [a]) (h1 : (es.drop 1).take 1 = [b]) : es = [a, b] := by
  match es, hl with
  | [p, q], _ => simp at h0 h1; subst h0 h1; rfl

section
variable {w0 : World} {σ : Vw}

theorem writeD_len {bs : List ByteArray} {xs : List Rw} {cut : Int} : (writeD bs xs cut).length ≤ bs.length := by
  unfold writeD; split
  · rw [runD_len]; omega
  · simp

theorem sum_const {α : Type} (c : Nat) (xs : List α) : sumBy (fun _ => c) xs = c * xs.length := by
  induction xs with
  | nil => rfl
  | cons a r ih => simp only [sumBy, ih, List.length_cons, Nat.mul_add, Nat.mul_one]; omega
/-- Lists that lie apart. -/
theorem apart_new {F G : List Nat} {σ : Vw} (hF : ∀ b, b ∈ F → σ b ≠ none) (hG : ∀ b, b ∈ G → σ b = none) : (∀ b, b ∈ F → b ∉ G) ∧ (∀ b, b ∈ G → b ∉ F) :=
  ⟨fun b h h' => hF b h (hG b h'), fun b h h' => hF b h' (hG b h)⟩

end
end Go.Proofs.YtkndffhcncmbjaaDoor

/- Rows of our own: cells stored, an element taken out in place, the copy of two lists in any order. -/
set_option linter.unusedVariables false
set_option linter.unusedSimpArgs false
namespace Go.Av
open Go Go.RowKit

section
variable {P : Program} {w0 : World} {σ σ' : Vw} {α γ : Type}

theorem cell_store {b o : Nat} {r : Row} {A c C new : List Value} {K : Vw → Prop} (hr : σ b = some r) (hc : r.cells = A ++ (c ++ C)) (hA : A.length = o) (hl : c.length = new.length)
    (hK : K (σ.put b { r with cells := A ++ (new ++ C) })) : pStore (.pointer (some ⟨b, o, none⟩)) new σ K := by
  refine ⟨b, o, r, rfl, hr, by rw [hc]; simp only [List.length_append]; omega, ?_⟩
  rw [hc, ← hA, setAt_mid A c new C hl]
  exact hK

/-- An element of a list of our own is written, all its cells. -/
theorem OSl.store {n : Nat} {Rel : (Addr → Option Value) → List Value → α → Prop} {O : Vw → List Nat → List Value → α → Prop} (ok : OOk w0 n Rel O) {F : List Nat} {v : Value} {xs : List α} (h : OSl w0 n O σ F v xs) {j : Nat} {x y : α} {new : List Value} (hj : xs[j]? = some x)
    (hO : ∀ f c σ', O σ f c x → O σ' f new y) (hn : new.length = n) {K : Vw → Prop}
    (hK : ∀ σ', KeepsBut F σ σ' → OSl w0 n O σ' F v (xs.set j y) → K σ') : pIndexAddr n v (.int .i64 j) fun p => pStore p new σ K := by
  obtain ⟨b, o, f, c, A, C, r, hix, hb, hr, hc, hA, hOx, hbF, hf, hput⟩ := h.focus ok hj
  refine hix _ ?_
  have hcl := ok.len _ _ _ _ hOx
  refine cell_store hr hc hA (by rw [hcl, hn]) ?_
  exact hK _ (KeepsBut.put hbF) (hput _ new y _ put_at rfl (hO _ _ _ hOx) fun i hi hne _ => by simp [Vw.put, hne])

def Vclone2 (w0 : World) (e1 n1 b1 e2 n2 b2 : Nat) (u v : Value) (σ : Vw) (K : Value → Value → Vw → Prop) : Prop :=
  (pNew w0 e1 [] σ (fun x0 s1 => (pAppendS w0 e1 n1 b1 (.slice (some (Addr.mk x0 0 none)) 0 0) u s1 (fun v2 s3 => pNew w0 e2 [] s3 (fun x4 s5 => pAppendS w0 e2 n2 b2 (.slice (some (Addr.mk x4 0 none)) 0 0) v s5 (fun v6 s7 => K v2 v6 s7)))) ∧
    (pNew w0 e2 [] s1 (fun x8 s9 => pAppendS w0 e1 n1 b1 (.slice (some (Addr.mk x0 0 none)) 0 0) u s9 (fun v10 s11 => pAppendS w0 e2 n2 b2 (.slice (some (Addr.mk x8 0 none)) 0 0) v s11 (fun v12 s13 => K v10 v12 s13)))))) ∧
  (pNew w0 e2 [] σ (fun x14 s15 => pNew w0 e1 [] s15 (fun x16 s17 => pAppendS w0 e1 n1 b1 (.slice (some (Addr.mk x16 0 none)) 0 0) u s17 (fun v18 s19 => pAppendS w0 e2 n2 b2 (.slice (some (Addr.mk x14 0 none)) 0 0) v s19 (fun v20 s21 => K v18 v20 s21)))))

theorem fresh_in {F F' : List Nat} {σ s : Vw} (k : Keeps σ s) (hF : ∀ i, i ∈ F → σ i = none) (h : ∀ i, i ∈ F' → i ∈ F ∨ s i = none) : ∀ i, i ∈ F' → σ i = none := fun i hi => by
  rcases h i hi with e | e
  · exact hF i e
  · cases hs : σ i with
    | none => rfl
    | some r => rw [k i r hs] at e; cases e
theorem KeepsBut.dom {F : List Nat} {σ σ' : Vw} (k : KeepsBut F σ σ') {i : Nat} (h : σ i ≠ none) (hF : i ∉ F) : σ' i ≠ none := by
  cases hs : σ i with
  | none => exact absurd hs h
  | some r => rw [k i r hs hF]; simp

theorem clone2 {e1 n1 b1 e2 n2 b2 : Nat} {R1 : (Addr → Option Value) → List Value → α → Prop} {O1 : Vw → List Nat → List Value → α → Prop} {R2 : (Addr → Option Value) → List Value → γ → Prop} {O2 : Vw → List Nat → List Value → γ → Prop}
    (ok1 : OOk w0 n1 R1 O1) (ok2 : OOk w0 n2 R2 O2) (hO1 : ∀ rd s es y, R1 rd es y → O1 s [] es y) (hO2 : ∀ rd s es y, R2 rd es y → O2 s [] es y) {u v : Value} {xs : List α} {ys : List γ}
    (hu : RSl n1 R1 (Av.get w0 σ) u xs) (hv : RSl n2 R2 (Av.get w0 σ) v ys) (hx : xs.length ≤ 1000000000000) (hy : ys.length ≤ 1000000000000) (hb1 : b1 ≤ 140) (hb2 : b2 ≤ 140) {K : Value → Value → Vw → Prop}
    (hK : ∀ u' F v' G σ', Keeps σ σ' → OAcc w0 e1 n1 O1 σ' F u' xs → OAcc w0 e2 n2 O2 σ' G v' ys → (∀ i, i ∈ F → σ i = none) → (∀ i, i ∈ G → σ i = none) → (∀ i, i ∈ F → i ∉ G) → K u' v' σ') : Vclone2 w0 e1 n1 b1 e2 n2 b2 u v σ K := by
  have nof : ∀ {σ s : Vw} {i : Nat}, Keeps σ s → s i = none → σ i = none := fun {σ s i} k hi => by
    cases hs : σ i with
    | none => rfl
    | some r => rw [k i r hs] at hi; cases hi
  refine ⟨fun x0 h1 h2 => ⟨?_, fun x8 h3 h4 => ?_⟩, fun x14 h1 h2 x16 h3 h4 => ?_⟩
  · have k0 : Keeps σ (σ.put x0 ⟨e1, [], 0, (0, 0)⟩) := Keeps.put h2
    refine OAcc.allX (F := [x0]) ok1 (OAcc.new h1) hu k0.le (hO1 _ _) (by simpa using hx) hb1 fun u' F s ex k1 o1 f1 x4 h3 h4 => ?_
    have hF0 : ∀ i, i ∈ [x0] → σ i = none := fun i hi => by rw [List.mem_singleton.1 hi]; exact h2
    have hF := fresh_in k0 hF0 f1
    have k1' := k1.old k0 hF0
    have k2 : Keeps s (s.put x4 ⟨e2, [], 0, (0, 0)⟩) := Keeps.put h4
    have o1' := o1.frame ok1 (k2.but_at fun b hb => (o1.dom ok1 b hb).2)
    refine OAcc.allX (F := [x4]) ok2 (OAcc.new h3) hv (k1'.trans k2).le (hO2 _ _) (by simpa using hy) hb2 fun v' G s' ex k3 o2 f2 => ?_
    have hG0 : ∀ i, i ∈ [x4] → s i = none := fun i hi => by rw [List.mem_singleton.1 hi]; exact h4
    have hG := fresh_in k2 hG0 f2
    have k3' := k3.old k2 hG0
    have o1'' := o1.frame ok1 (k3'.but_at fun b hb => (o1.dom ok1 b hb).2)
    refine hK u' F v' G s' (k1'.trans k3') (by simpa using o1'') (by simpa using o2) hF (fun i hi => nof k1' (hG i hi)) fun i hi hi' => (o1.dom ok1 i hi).2 (hG i hi')
  · have k0 : Keeps σ (σ.put x0 ⟨e1, [], 0, (0, 0)⟩) := Keeps.put h2
    have k1 : Keeps (σ.put x0 ⟨e1, [], 0, (0, 0)⟩) ((σ.put x0 ⟨e1, [], 0, (0, 0)⟩).put x8 ⟨e2, [], 0, (0, 0)⟩) := Keeps.put h4
    have a1 : OAcc w0 e1 n1 O1 (σ.put x0 ⟨e1, [], 0, (0, 0)⟩) [x0] (.slice (some ⟨x0, 0, none⟩) 0 0) [] := OAcc.new h1
    have a1' := a1.frame ok1 (k1.but_at fun b hb => (a1.dom ok1 b hb).2)
    have a2 : OAcc w0 e2 n2 O2 ((σ.put x0 ⟨e1, [], 0, (0, 0)⟩).put x8 ⟨e2, [], 0, (0, 0)⟩) [x8] (.slice (some ⟨x8, 0, none⟩) 0 0) [] := OAcc.new h3
    have hF0 : ∀ i, i ∈ [x0] → σ i = none := fun i hi => by rw [List.mem_singleton.1 hi]; exact h2
    have hG0 : ∀ i, i ∈ [x8] → σ i = none := fun i hi => by rw [List.mem_singleton.1 hi]; exact nof k0 h4
    have hne : x8 ≠ x0 := fun e => by rw [e, put_at] at h4; cases h4
    have k01 := k0.trans k1
    refine OAcc.allX (F := [x0]) ok1 a1' hu k01.le (hO1 _ _) (by simpa using hx) hb1 fun u' F s ex k2 o1 f1 => ?_
    have hF := fresh_in k01 hF0 f1
    have k2' := k2.old k01 hF0
    have a2' := a2.frame ok2 (k2.at (fun b hb => (a2.dom ok2 b hb).2) fun b hb hb' => hne ((List.mem_singleton.1 hb).symm.trans (List.mem_singleton.1 hb')))
    have hFG : x8 ∉ F := fun hi => by
      rcases f1 _ hi with e | e
      · exact hne (List.mem_singleton.1 e)
      · rw [put_at] at e; cases e
    refine OAcc.allX (F := [x8]) ok2 a2' hv k2'.le (hO2 _ _) (by simpa using hy) hb2 fun v' G s' ex k3 o2 f2 => ?_
    have o1' := o1.frame ok1 (k3.at (fun b hb => (o1.dom ok1 b hb).2) fun b hb hb' => hFG ((List.mem_singleton.1 hb') ▸ hb))
    refine hK u' F v' G s' (k3.old k2' hG0) (by simpa using o1') (by simpa using o2) hF (fresh_in k2' hG0 f2) fun i hi hi' => ?_
    rcases f2 i hi' with e | e
    · exact hFG ((List.mem_singleton.1 e) ▸ hi)
    · exact (o1.dom ok1 i hi).2 e
  · have k0 : Keeps σ (σ.put x14 ⟨e2, [], 0, (0, 0)⟩) := Keeps.put h2
    have k1 : Keeps (σ.put x14 ⟨e2, [], 0, (0, 0)⟩) ((σ.put x14 ⟨e2, [], 0, (0, 0)⟩).put x16 ⟨e1, [], 0, (0, 0)⟩) := Keeps.put h4
    have a2 : OAcc w0 e2 n2 O2 (σ.put x14 ⟨e2, [], 0, (0, 0)⟩) [x14] (.slice (some ⟨x14, 0, none⟩) 0 0) [] := OAcc.new h1
    have a2' := a2.frame ok2 (k1.but_at fun b hb => (a2.dom ok2 b hb).2)
    have a1 : OAcc w0 e1 n1 O1 ((σ.put x14 ⟨e2, [], 0, (0, 0)⟩).put x16 ⟨e1, [], 0, (0, 0)⟩) [x16] (.slice (some ⟨x16, 0, none⟩) 0 0) [] := OAcc.new h3
    have hG0 : ∀ i, i ∈ [x14] → σ i = none := fun i hi => by rw [List.mem_singleton.1 hi]; exact h2
    have hF0 : ∀ i, i ∈ [x16] → σ i = none := fun i hi => by rw [List.mem_singleton.1 hi]; exact nof k0 h4
    have hne : x16 ≠ x14 := fun e => by rw [e, put_at] at h4; cases h4
    have k01 := k0.trans k1
    refine OAcc.allX (F := [x16]) ok1 a1 hu k01.le (hO1 _ _) (by simpa using hx) hb1 fun u' F s ex k2 o1 f1 => ?_
    have hF := fresh_in k01 hF0 f1
    have k2' := k2.old k01 hF0
    have a2'' := a2'.frame ok2 (k2.at (fun b hb => (a2'.dom ok2 b hb).2) fun b hb hb' => hne ((List.mem_singleton.1 hb').symm.trans (List.mem_singleton.1 hb)))
    have hFG : x14 ∉ F := fun hi => by
      rcases f1 _ hi with e | e
      · exact hne (List.mem_singleton.1 e).symm
      · exact absurd e (a2'.dom ok2 x14 (List.mem_singleton.2 rfl)).2
    refine OAcc.allX (F := [x14]) ok2 a2'' hv k2'.le (hO2 _ _) (by simpa using hy) hb2 fun v' G s' ex k3 o2 f2 => ?_
    have o1' := o1.frame ok1 (k3.at (fun b hb => (o1.dom ok1 b hb).2) fun b hb hb' => hFG ((List.mem_singleton.1 hb') ▸ hb))
    refine hK u' F v' G s' (k3.old k2' hG0) (by simpa using o1') (by simpa using o2) hF (fresh_in k2' hG0 f2) fun i hi hi' => ?_
    rcases f2 i hi' with e | e
    · exact hFG ((List.mem_singleton.1 e) ▸ hi)
    · exact (o1.dom ok1 i hi).2 e

/-! ### An element is taken out, in place -/
def VDel (P : Program) (w0 : World) (T ety n bytes : Nat) (z : List Value) (a0 a1 a2 : Value) (σ : Vw) (R : Value → Vw → Prop) : Prop :=
  pLen a0 (fun v0 => pSlice3 n a0 (some a1) (some a2) (some v0) (fun v1 => pBin P T .eql a1 a2 (fun v2 => pIf v2 (R a0 σ) (pLen a0 (fun v3 => pSlice n a0 none (some a1) (fun v4 => pSlice n a0 (some a2) none (fun v5 => pAppendS w0 ety n bytes v4 v5 σ (fun v6 s7 => pLen v6 (fun v8 => pSlice n v6 (some v8) (some v3) (fun v9 => pClear n z v9 s7 (fun s10 => R v6 s10)))))))))))

theorem del_row {T ety n bytes b off cap j : Nat} {z : List Value} {r : Row} {pre post : List Value} {css : List (List Value)} (hz : z.length = n) (hz1 : ∀ c, c ∈ z → c.oneCell' = true) (hb : w0.heap.size ≤ b) (hr : σ b = some r) (hc : r.cells = pre ++ (css.flatten ++ post)) (hpre : pre.length = off)
    (hn : ∀ c, c ∈ css → c.length = n) (h1 : ∀ c, c ∈ css → ∀ u, u ∈ c → u.oneCell' = true) (hn0 : 0 < n) (hcap : css.length ≤ cap ∧ cap ≤ 9223372036854775807) (hj : j < css.length) {R : Value → Vw → Prop}
    (hR : R (.slice (some ⟨b, off, none⟩) (css.length - 1) cap) (σ.put b { r with cells := pre ++ ((css.take j ++ css.drop (j + 1)).flatten ++ (z ++ post)) })) :
    VDel P w0 T ety n bytes z (.slice (some ⟨b, off, none⟩) css.length cap) (.int .i64 (j : Nat)) (.int .i64 ((j : Int) + 1)) σ R := by
  obtain ⟨m, hm⟩ : ∃ m, css.length = j + 1 + m := ⟨css.length - (j + 1), by omega⟩
  have hcj := List.getElem?_eq_getElem hj
  have htl : ∀ c, c ∈ css.take j → c.length = n := fun c hc => hn c (List.mem_of_mem_take hc)
  have hdl : ∀ c, c ∈ css.drop (j + 1) → c.length = n := fun c hc => hn c (List.mem_of_mem_drop hc)
  have hfl := split_at hcj
  have hcl := hn _ (List.getElem_mem hj)
  have htlen : (css.take j).flatten.length = j * n := by rw [flat_len _ htl, List.length_take, Nat.min_eq_left (by omega)]
  have hdlen : (css.drop (j + 1)).flatten.length = m * n := by rw [flat_len _ hdl, List.length_drop]; congr 1; omega
  unfold VDel
  rw [pLen_s]
  refine ⟨some ⟨b, off, none⟩, css.length, cap, (j : Int), (j : Int) + 1, (css.length : Int), rfl, rfl, rfl, rfl, rfl, rfl, by omega, by omega, by omega, by omega, ?_⟩
  rw [pBin_eq, pIf_d]
  refine ⟨fun h => by omega, fun _ => ?_⟩
  rw [pLen_s]
  refine ⟨some ⟨b, off, none⟩, css.length, cap, 0, (j : Int), rfl, rfl, rfl, by omega, by omega, by omega, ?_⟩
  refine ⟨some ⟨b, off, none⟩, css.length, cap, (j : Int) + 1, (css.length : Int), rfl, rfl, rfl, by omega, by omega, by omega, ?_⟩
  have e0 : (if cap = (0 : Int).toNat then some (Addr.mk b off none) else (some (Addr.mk b off none)).map (·.add ((0 : Int).toNat * n))) = some (Addr.mk b off none) := by
    split
    · rfl
    · simp [Addr.add]
  rw [e0]
  simp only [Int.toNat_natCast, Int.toNat_zero, Nat.sub_zero]
  have ej : ((j : Int) + 1).toNat = j + 1 := by omega
  rw [ej]
  have hcells : r.cells = (pre ++ (css.take j).flatten) ++ ((css[j] ++ (css.drop (j + 1)).flatten) ++ post) := by rw [hc, hfl]; simp
  -- what is moved
  refine ⟨_, css.length - (j + 1), cap - (j + 1), (css.drop (j + 1)).flatten, rfl, by rw [hdlen]; congr 1; omega, fun u hu => ?_, fun i hi => ?_, .inl ⟨b, off, j, cap, r, rfl, hr, by omega, by rw [hdlen]; congr 1; omega, fun u hu => ?_, ?_, ?_⟩⟩
  · obtain ⟨c, hc1, hc2⟩ := List.mem_flatten.1 hu
    exact h1 c (List.mem_of_mem_drop hc1) u hc2
  · have hi' : i < m * n := by rw [← hdlen]; exact hi
    have hcapne : ¬ cap = j + 1 := fun e => by
      have : m = 0 := by omega
      subst this; omega
    refine ⟨_, by rw [if_neg hcapne]; rfl, ?_⟩
    rw [add_add, addr_add, get_row hb hr, hc, ← List.getElem?_eq_getElem hi]
    rw [List.getElem?_append_right (by omega), hpre]
    have e2 : off + ((j + 1) * n + i) - off = (j + 1) * n + i := by omega
    have hlt : (j + 1) * n + i < css.flatten.length := by
      rw [flat_len _ hn, hm, Nat.add_mul (j + 1)]; omega
    rw [e2, List.getElem?_append_left hlt]
    have h3 : css.flatten = (css.take (j + 1)).flatten ++ (css.drop (j + 1)).flatten := by rw [← List.flatten_append, List.take_append_drop]
    have h4 : (css.take (j + 1)).flatten.length = (j + 1) * n := by
      rw [flat_len _ fun c hc => hn c (List.mem_of_mem_take hc), List.length_take, Nat.min_eq_left (by omega)]
    rw [h3, List.getElem?_append_right (by omega), h4]
    congr 1; omega
  · obtain ⟨c, hc1, hc2⟩ := List.mem_flatten.1 hu
    exact h1 c (List.mem_of_mem_drop hc1) u hc2
  · rw [hcells]; simp only [List.length_append]; omega
  · -- the cells behind it
    generalize hDe : (css.drop (j + 1)).flatten = D at *
    generalize hTe : (css.take j).flatten = T' at *
    generalize hce : css[j] = cj at *
    have hB : (cj ++ D).length = n + m * n := by rw [List.length_append, hcl, hdlen]
    have hsplit : cj ++ D = (cj ++ D).take (m * n) ++ (cj ++ D).drop (m * n) := (List.take_append_drop _ _).symm
    have hold : ((cj ++ D).take (m * n)).length = D.length := by rw [List.length_take, hB, hdlen]; omega
    have hlast : ((cj ++ D).drop (m * n)).length = n := by rw [List.length_drop, hB]; omega
    have hset : setAt r.cells (off + j * n) D = (pre ++ T') ++ (D ++ ((cj ++ D).drop (m * n) ++ post)) := by
      have hA : (pre ++ T').length = off + j * n := by rw [List.length_append, hpre, htlen]
      have hcells2 : r.cells = (pre ++ T') ++ ((cj ++ D).take (m * n) ++ ((cj ++ D).drop (m * n) ++ post)) := by
        rw [hcells, ← List.append_assoc ((cj ++ D).take (m * n)), List.take_append_drop]
      rw [hcells2, ← hA, setAt_mid _ _ _ _ hold]
    rw [hset]
    have e3 : j + (css.length - (j + 1)) = css.length - 1 := by omega
    rw [e3, pLen_s]
    refine ⟨some ⟨b, off, none⟩, css.length - 1, cap, ((css.length - 1 : Nat) : Int), (css.length : Int), rfl, rfl, rfl, by omega, by omega, by omega, ?_⟩
    simp only [Int.toNat_natCast]
    have e4 : css.length - (css.length - 1) = 1 := by omega
    have hcapne : ¬ cap = css.length - 1 := by omega
    rw [e4, if_neg hcapne]
    refine ⟨hz, hz1, _, 1, cap - (css.length - 1), rfl, .inr ⟨b, off + (css.length - 1) * n, _, by simp [addr_add], by omega, put_at, ?_, ?_⟩⟩
    · simp only [List.length_append, hpre, htlen, hdlen, hlast]
      have : (css.length - 1) * n = j * n + m * n := by rw [← Nat.add_mul]; congr 1; omega
      omega
    · have e5 : (List.replicate 1 z).flatten = z := by simp
      have hA2 : (pre ++ T' ++ D).length = off + (css.length - 1) * n := by
        simp only [List.length_append, hpre, htlen, hdlen]
        have : (css.length - 1) * n = j * n + m * n := by rw [← Nat.add_mul]; congr 1; omega
        omega
      simp only
      rw [e5]
      have e6 : (pre ++ T') ++ (D ++ ((cj ++ D).drop (m * n) ++ post)) = (pre ++ T' ++ D) ++ ((cj ++ D).drop (m * n) ++ post) := by simp
      rw [e6, ← hA2, setAt_mid _ _ _ _ (by rw [hlast, hz]), put_put]
      have e7 : (pre ++ T' ++ D) ++ (z ++ post) = pre ++ ((css.take j ++ css.drop (j + 1)).flatten ++ (z ++ post)) := by
        rw [List.flatten_append, hTe, hDe]; simp
      rw [e7]
      exact hR

/-- An element of a list of our own is taken out: what is read then. -/
theorem OSl.del {T ety n bytes j : Nat} {z : List Value} {Rel : (Addr → Option Value) → List Value → α → Prop} {O : Vw → List Nat → List Value → α → Prop} (ok : OOk w0 n Rel O) (hO : ∀ s s' f es y, O s f es y → f = [] ∧ O s' f es y) (hz : z.length = n) (hz1 : ∀ c, c ∈ z → c.oneCell' = true) (hn0 : 0 < n) {F : List Nat} {v : Value} {xs : List α}
    (h : OSl w0 n O σ F v xs) (hj : j < xs.length) {R : Value → Vw → Prop} (hR : ∀ v' σ', KeepsBut F σ σ' → RSl n Rel (Av.get w0 σ') v' (xs.take j ++ xs.drop (j + 1)) → R v' σ') : VDel P w0 T ety n bytes z v (.int .i64 (j : Nat)) (.int .i64 ((j : Int) + 1)) σ R := by
  obtain ⟨g1, g2, ⟨rfl, rfl, _⟩ | ⟨b, off, cap, r, pre, post, css, Fs, rfl, gc, g3, g4, g5, g6, g7, g8, g9, g10⟩⟩ := h
  · simp at hj
  · have each : ∀ (i : Nat) (c : List Value), css[i]? = some c → ∃ x f, xs[i]? = some x ∧ O σ f c x := fun i c hi => by
      have hlt : i < css.length := (List.getElem?_eq_some_iff.1 hi).1
      exact ⟨_, _, List.getElem?_eq_getElem (by omega), g10 i c _ _ hi (List.getElem?_eq_getElem (by omega)) (List.getElem?_eq_getElem (by omega))⟩
    have hn : ∀ c, c ∈ css → c.length = n := fun c hc => by obtain ⟨i, hi⟩ := List.getElem?_of_mem hc; obtain ⟨x, f, _, ho⟩ := each i c hi; exact ok.len _ _ _ _ ho
    have h1 : ∀ c, c ∈ css → ∀ u, u ∈ c → u.oneCell' = true := fun c hc => by obtain ⟨i, hi⟩ := List.getElem?_of_mem hc; obtain ⟨x, f, _, ho⟩ := each i c hi; exact ok.one _ _ _ _ ho
    rw [← g7]
    refine del_row hz hz1 g3 g4 g5 g6 hn h1 hn0 (by rw [g7]; exact gc) (by omega) (hR _ _ (KeepsBut.put (by rw [g9]; exact List.mem_cons_self)) ?_)
    have hlen : (xs.take j ++ xs.drop (j + 1)).length = css.length - 1 := by simp only [List.length_append, List.length_take, List.length_drop]; omega
    refine ⟨_, cap, by rw [hlen], by rw [hlen]; omega, fun i x hi => ?_⟩
    -- the cells of the element
    have hget : ∃ c f, (css.take j ++ css.drop (j + 1))[i]? = some c ∧ O σ f c x := by
      by_cases hij : i < j
      · rw [List.getElem?_append_left (by rw [List.length_take]; omega), List.getElem?_take_of_lt hij] at hi
        refine ⟨css[i]'(by omega), _, ?_, g10 i _ x _ (List.getElem?_eq_getElem (by omega)) hi (List.getElem?_eq_getElem (by omega))⟩
        rw [List.getElem?_append_left (by rw [List.length_take]; omega), List.getElem?_take_of_lt hij]
        exact List.getElem?_eq_getElem (by omega)
      · rw [List.getElem?_append_right (by rw [List.length_take]; omega), List.getElem?_drop, List.length_take, Nat.min_eq_left (by omega)] at hi
        have hlt : j + 1 + (i - j) < xs.length := (List.getElem?_eq_some_iff.1 hi).1
        refine ⟨css[j + 1 + (i - j)]'(by omega), _, ?_, g10 _ _ x _ (List.getElem?_eq_getElem (by omega)) hi (List.getElem?_eq_getElem (by omega))⟩
        rw [List.getElem?_append_right (by rw [List.length_take]; omega), List.getElem?_drop, List.length_take, Nat.min_eq_left (by omega)]
        exact List.getElem?_eq_getElem (by omega)
    obtain ⟨c, f, hci, ho⟩ := hget
    have hn' : ∀ c, c ∈ css.take j ++ css.drop (j + 1) → c.length = n := fun c hc => by
      rcases List.mem_append.1 hc with h | h
      · exact hn c (List.mem_of_mem_take h)
      · exact hn c (List.mem_of_mem_drop h)
    obtain ⟨rfl, ho'⟩ := hO σ (σ.put b { r with cells := pre ++ ((css.take j ++ css.drop (j + 1)).flatten ++ (z ++ post)) }) f c x ho
    refine ⟨_, c, rfl, ok.len _ _ _ _ ho, fun k hk => ?_, ok.rel _ _ _ _ ho'⟩
    rw [addr_add, get_row g3 put_at]
    simp only
    rw [List.getElem?_append_right (by omega), show off + (i * n + k) - pre.length = i * n + k by omega, List.getElem?_append_left, flat_get _ hn' i c hci k hk]
    have hil : i < (css.take j ++ css.drop (j + 1)).length := (List.getElem?_eq_some_iff.1 hci).1
    rw [flat_len _ hn']
    calc i * n + k < i * n + n := by omega
      _ = (i + 1) * n := by rw [Nat.add_mul, Nat.one_mul]
      _ ≤ (css.take j ++ css.drop (j + 1)).length * n := Nat.mul_le_mul_right n hil
end
end Go.Av

/- Checkpoints by either hand; 'StoreNew' and its law. -/
set_option linter.unusedVariables false
set_option linter.unusedSimpArgs false
namespace Go.Proofs.YtkndffhcncmbjaaDoor
open Go Go.Av Go.RowKit

def rng' (n : Int) : Prop := -9223372036854775808 ≤ n ∧ n ≤ 9223372036854775807
def savedP (gen : Int) (text : ByteArray) (n : Nat) : List Rw := (List.range n).map fun i => (areaI gen + (i : Nat), pieceB text i 64)
def savedR (gen : Int) (text : ByteArray) : List Rw := savedP gen text (manyN text 64) ++ [(gen % 2, headB gen text.size)]
theorem savedP_succ (gen : Int) (text : ByteArray) (n : Nat) : savedP gen text (n + 1) = savedP gen text n ++ [(areaI gen + (n : Nat), pieceB text n 64)] := by simp [savedP, List.range_succ]
theorem savedP_len (gen : Int) (text : ByteArray) (n : Nat) : (savedP gen text n).length = n := by simp [savedP]
theorem savedR_len (gen : Int) (text : ByteArray) : (savedR gen text).length = manyN text 64 + 1 := by simp [savedR, savedP_len]
theorem many64 {s : ByteArray} (h : s.size ≤ 5760) : manyN s 64 ≤ 90 := by unfold manyN; omega
theorem area_le {gen : Int} (h : 0 ≤ gen) : 14 ≤ areaI gen ∧ areaI gen ≤ 104 := by unfold areaI; omega
theorem head_size {gen : Int} {n : Nat} (hg : 0 ≤ gen ∧ gen ≤ 1000000) (hn : n ≤ 1000000) : (headB gen n).size ≤ 1000000 := by
  unfold headB
  have h1 := (decN_size n).2
  have h2 := (decN_size gen.toNat).2
  have e : decZ gen = decN gen.toNat := by unfold decZ; rw [if_neg (by omega)]
  rw [ByteArray.size_append, ByteArray.size_append, ByteArray.size_append, e]
  show 2 + _ + 1 + _ ≤ _
  omega
def newR (text : ByteArray) : List Rw × Bool := if text.size ≤ 5760 then (savedR 1 text, true) else ([], false)

section
variable {w0 : World} {σ : Vw}

theorem cat4 {a b c d : ByteArray} {T : Nat} {K : Value → Prop} (h : a.size + b.size + c.size + d.size ≤ 9223372036854775807) : pBin Tryd.prog T .add (.string a) (.string b) (fun x => pBin Tryd.prog T .add x (.string c) K) ↔ K (.string (a ++ b ++ c)) := by
  rw [pBin_cat (by omega)]
  rw [pBin_cat (by rw [ByteArray.size_append]; omega)]

theorem spec_l22Head {gen : Int} {text : ByteArray} {R : Value → Vw → Prop} (hg : 0 ≤ gen ∧ gen ≤ 1000000) (hs : text.size ≤ 1000000) (hR : ∀ σ', Keeps σ σ' → R (.string (headB gen text.size)) σ') : AC Tryd.prog w0 n_spec_l22Head [.int .i64 gen, .string text] σ R := by
  refine ac_spec_l22Head ?_
  unfold vc_spec_l22Head
  have h1 := (decN_size text.size).2
  have h2 := decZ_size (n := gen) (by omega)
  refine spec_l22Dec (by omega) fun s1 k1 => ?_
  rw [pBin_cat (by show 2 + _ ≤ _; omega), pBin_cat (by rw [ByteArray.size_append]; show 2 + _ + 1 ≤ _; omega), pLenS_s]
  refine spec_l22Dec_nat _ (by omega) fun s2 k2 => ?_
  rw [pBin_cat (by rw [ByteArray.size_append, ByteArray.size_append]; show 2 + _ + 1 + _ ≤ _; omega)]
  exact hR s2 (k1.trans k2)

theorem impl_checkHead (tab : Tab w0) {gen : Int} {n : Nat} {R : Value → Vw → Prop} (hg : 0 ≤ gen ∧ gen ≤ 1000000) (hs : n ≤ 1000000) (hR : R (.string (headB gen n)) σ) : AC Tryd.prog w0 n_impl_checkHead [.int .i64 gen, .int .i64 (n : Nat)] σ R := by
  refine ac_impl_checkHead ?_
  unfold vc_impl_checkHead
  have h1 := (decN_size n).2
  have h2 := decZ_size (n := gen) (by omega)
  refine strconv_Itoa tab (by omega) ?_
  rw [pBin_cat (by show 2 + _ ≤ _; omega), pBin_cat (by rw [ByteArray.size_append]; show 2 + _ + 1 ≤ _; omega)]
  refine strconv_Itoa tab (by omega) ?_
  rw [decZ_nat, pBin_cat (by rw [ByteArray.size_append, ByteArray.size_append]; show 2 + _ + 1 + _ ≤ _; omega)]
  exact hR

theorem raw_app {F : List Nat} {v : Value} {xs : List Rw} {a : Int} {t : ByteArray} (ho : OAcc w0 t_impl_Raw 2 ORaw σ F v xs) (ha : rng' a) (ht : t.size ≤ 9223372036854775807) (hl : xs.length ≤ 1000000) {K : Value → Vw → Prop}
    (hK : ∀ v' F' σ', KeepsBut F σ σ' → OAcc w0 t_impl_Raw 2 ORaw σ' F' v' (xs ++ [(a, t)]) → (∀ i, i ∈ F' → i ∈ F ∨ σ i = none) → K v' σ') :
    pVal false 1 (.int .i64 a) (pVal false 1 (.string t) (pVal true 2 (.agg ⟨[.int .i64 a, .string t]⟩) (allOne [.int .i64 a, .string t] ∧ pAppend w0 t_impl_Raw 2 24 v 1 [.int .i64 a, .string t] σ K))) := by
  rw [pVal1 rfl, pVal1 rfl, pVal_2 rfl rfl]
  refine ho.one (ok_raw w0) (f := []) (y := (a, t)) ⟨rfl, rfl, ha, ht⟩ (by simp) (by omega) (by omega) fun v' F' σ' k o f => hK v' F' σ' k o fun i hi => ?_
  rcases f i hi with h | h | h
  · exact .inl h
  · cases h
  · exact .inr h

theorem spec_l22Saved {gen : Int} {text : ByteArray} {R : Value → Vw → Prop} (hg : 0 ≤ gen ∧ gen ≤ 1000000) (hs : text.size ≤ 5760)
    (hR : ∀ v F σ', Keeps σ σ' → OAcc w0 t_impl_Raw 2 ORaw σ' F v (savedR gen text) → (∀ i, i ∈ F → σ i = none) → R v σ') : AC Tryd.prog w0 n_spec_l22Saved [.int .i64 gen, .string text] σ R := by
  refine ac_spec_l22Saved ?_
  unfold vc_spec_l22Saved
  intro b h1 h2
  have h90 := many64 hs
  have har := area_le hg.1
  have new := OAcc.new (w0 := w0) (σ := σ) (ety := t_impl_Raw) (n := 2) (O := ORaw) h1
  have fin : ∀ (v : Value) (F : List Nat) (s : Vw), Keeps σ s → (∀ i, i ∈ F → σ i = none) → OAcc w0 t_impl_Raw 2 ORaw s F v (savedP gen text (manyN text 64)) → pBin Tryd.prog 3 .rem (.int .i64 gen) (.int .i64 2) (fun v19 => AC Tryd.prog w0 n_spec_l22Head [.int .i64 gen, .string text] s (fun v20 s21 => pVal false 1 v19 (pVal false 1 v20 (pVal true 2 (.agg ⟨[v19, v20]⟩) ((allOne [v19, v20]) ∧ (pAppend w0 t_impl_Raw 2 24 v 1 [v19, v20] s21 (fun v22 s23 => R v22 s23))))))) := by
    intro v F s ks hF ho
    rw [pBin_rem (by omega)]
    refine spec_l22Head hg (by omega) fun s1 k1 => ?_
    have ho1 := ho.frame (ok_raw w0) (k1.but_at fun b hb => (ho.dom (ok_raw w0) b hb).2)
    refine raw_app ho1 (by unfold rng'; omega) (by have := head_size hg (show text.size ≤ 1000000 by omega); omega) (by rw [savedP_len]; omega) fun v' F' s2 k2 o2 f2 => ?_
    exact hR v' F' s2 (k2.old (ks.trans k1) hF) o2 (fresh_in (ks.trans k1) hF f2)
  refine loop_rule (m := manyN text 64) (fun m l s => ∃ (i : Nat) (v : Value) (F : List Nat), m + i = manyN text 64 ∧ Keeps σ s ∧ (∀ j, j ∈ F → σ j = none) ∧ OAcc w0 t_impl_Raw 2 ORaw s F v (savedP gen text i) ∧ l = [.int .i64 gen, .string text, v, .int .i64 (i : Nat)]) ?_
    ⟨0, _, [b], by omega, Keeps.put h2, (fun j hj => by rw [List.mem_singleton.1 hj]; exact h2), by simpa [savedP] using new, rfl⟩
  rintro m l s L ⟨i, v, F, hm, ks, hF, ho, rfl⟩ hL
  simp only [vget, List.getD_cons_zero, List.getD_cons_succ]
  refine spec_l22Many (size := 64) (by omega) (by omega) ?_
  rw [pBin_lt, pIf_d]
  refine ⟨fun hi => ?_, fun hi => ?_⟩
  · refine spec_l22Area hg ?_
    rw [pBin_add (by omega)]
    refine spec_l22Piece (size := 64) (by omega) (by omega) ((lt_many (by omega)).1 (by omega)) ?_
    have hps := piece_size text i 64
    refine raw_app ho (by unfold rng'; omega) (by omega) (by rw [savedP_len]; omega) fun v' F' s2 k2 o2 f2 => ?_
    rw [pBin_add (by omega)]
    rw [← savedP_succ] at o2
    exact hL _ _ (m - 1) (by omega) ⟨i + 1, v', F', by omega, k2.old ks hF, fresh_in ks hF f2, o2, by simp⟩
  · have e : i = manyN text 64 := by omega
    subst e
    exact fin v F s ks hF ho

theorem impl_checkpoint (tab : Tab w0) {gen : Int} {text : ByteArray} {R : Value → Vw → Prop} (hg : 0 ≤ gen ∧ gen ≤ 1000000) (hs : text.size ≤ 5760)
    (hR : ∀ v F σ', Keeps σ σ' → OAcc w0 t_impl_Raw 2 ORaw σ' F v (savedR gen text) → (∀ i, i ∈ F → σ i = none) → R v σ') : AC Tryd.prog w0 n_impl_checkpoint [.int .i64 gen, .string text] σ R := by
  refine ac_impl_checkpoint ?_
  unfold vc_impl_checkpoint
  intro b h1 h2
  have h90 := many64 hs
  have har := area_le hg.1
  have new := OAcc.new (w0 := w0) (σ := σ) (ety := t_impl_Raw) (n := 2) (O := ORaw) h1
  rw [pLenS_s]
  refine impl_pieces' (size := 64) (by omega) (by omega) ?_
  refine loop_rule (m := manyN text 64) (fun m l s => ∃ (i : Nat) (v : Value) (F : List Nat), m + i = manyN text 64 ∧ Keeps σ s ∧ (∀ j, j ∈ F → σ j = none) ∧ OAcc w0 t_impl_Raw 2 ORaw s F v (savedP gen text i) ∧ l = [.int .i64 gen, .string text, v, .int .i64 (manyN text 64 : Nat), .int .i64 (i : Nat)]) ?_
    ⟨0, _, [b], by omega, Keeps.put h2, (fun j hj => by rw [List.mem_singleton.1 hj]; exact h2), by simpa [savedP] using new, rfl⟩
  rintro m l s L ⟨i, v, F, hm, ks, hF, ho, rfl⟩ hL
  simp only [vget, List.getD_cons_zero, List.getD_cons_succ]
  rw [pBin_lt, pIf_d]
  refine ⟨fun hi => ?_, fun hi => ?_⟩
  · have hlt := (lt_many (s := text) (size := 64) (i := i) (by omega)).1 (by omega)
    rw [pBin_add (by omega), pBin_mul (by omega), pLenS_s, pMin_s, pBin_mul (by omega)]
    refine pSliceStr_s (l := (i : Int) * 64) (h := min (((i : Int) + 1) * 64) text.size) rfl rfl (by omega) ?_
    have hp : text.extract ((i : Int) * 64).toNat (min (((i : Int) + 1) * 64) text.size).toNat = pieceB text i 64 := by
      unfold pieceB
      congr 1 <;> omega
    rw [hp]
    refine impl_areaFirst hg ?_
    rw [pBin_add (by omega)]
    have hps := piece_size text i 64
    refine raw_app ho (by unfold rng'; omega) (by omega) (by rw [savedP_len]; omega) fun v' F' s2 k2 o2 f2 => ?_
    rw [pBin_add (by omega)]
    rw [← savedP_succ] at o2
    exact hL _ _ (m - 1) (by omega) ⟨i + 1, v', F', by omega, k2.old ks hF, fresh_in ks hF f2, o2, by simp⟩
  · have e : i = manyN text 64 := by omega
    subst e
    show pBin Tryd.prog 3 .rem (.int .i64 gen) (.int .i64 2) _
    rw [pBin_rem (by omega), pLenS_s]
    refine impl_checkHead tab hg (by omega) ?_
    refine raw_app ho (by unfold rng'; omega) (by have := head_size hg (show text.size ≤ 1000000 by omega); omega) (by rw [savedP_len]; omega) fun v' F' s2 k2 o2 f2 => ?_
    exact hR v' F' s2 (k2.old ks hF) o2 (fresh_in ks hF f2)

theorem raw_new {b : Nat} (hb : w0.heap.size ≤ b) {ety : Nat} : OSl w0 2 ORaw (σ.put b ⟨ety, [], 0, (0, 0)⟩) [b] (.slice (some ⟨b, 0, none⟩) 0 0) [] := (OAcc.new (w0 := w0) (σ := σ) (ety := ety) (n := 2) (O := ORaw) hb).osl

theorem spec_l22TextOk {text : ByteArray} {R : Value → Vw → Prop} (hR : R (.bool (decide (text.size ≤ 5760))) σ) : AC Tryd.prog w0 n_spec_l22TextOk [.string text] σ R := by
  refine ac_spec_l22TextOk ?_
  unfold vc_spec_l22TextOk
  rw [pLenS_s, pBin_le]
  have e : decide ((text.size : Int) ≤ 5760) = decide (text.size ≤ 5760) := by congr 1; apply propext; omega
  rw [e]; exact hR
theorem spec_StoreNew {text : ByteArray} {R : Value → Vw → Prop} (hR : ∀ v F σ', Keeps σ σ' → OSl w0 2 ORaw σ' F v (newR text).1 → (∀ i, i ∈ F → σ i = none) → R (.tuple ⟨[v, .bool (newR text).2]⟩) σ') : AC Tryd.prog w0 n_spec_StoreNew [.string text] σ R := by
  refine ac_spec_StoreNew ?_
  unfold vc_spec_StoreNew
  refine spec_l22TextOk ?_
  rw [pUn_not, pIf_b]
  refine ⟨fun h => ?_, fun h => ?_⟩
  · have e : newR text = ([], false) := by simp at h; simp [newR, show ¬ text.size ≤ 5760 by omega]
    rw [e] at hR
    intro b h1 h2
    exact hR _ [b] _ (Keeps.put h2) (raw_new h1) fun i hi => by rw [List.mem_singleton.1 hi]; exact h2
  · have hs : text.size ≤ 5760 := by simp at h; omega
    have e : newR text = (savedR 1 text, true) := by simp [newR, hs]
    rw [e] at hR
    exact spec_l22Saved (by omega) hs fun v F s k o f => hR v F s k o.osl f

theorem impl_StoreNew (tab : Tab w0) {text : ByteArray} {R : Value → Vw → Prop} (hR : ∀ v F σ', Keeps σ σ' → OSl w0 2 ORaw σ' F v (newR text).1 → (∀ i, i ∈ F → σ i = none) → R (.tuple ⟨[v, .bool (newR text).2]⟩) σ') : AC Tryd.prog w0 n_impl_StoreNew [.string text] σ R := by
  refine ac_impl_StoreNew ?_
  unfold vc_impl_StoreNew
  rw [pLenS_s, pBin_gt, pIf_d]
  refine ⟨fun h => ?_, fun h => ?_⟩
  · have e : newR text = ([], false) := by simp [newR, show ¬ text.size ≤ 5760 by omega]
    rw [e] at hR
    intro b h1 h2
    exact hR _ [b] _ (Keeps.put h2) (raw_new h1) fun i hi => by rw [List.mem_singleton.1 hi]; exact h2
  · have hs : text.size ≤ 5760 := by omega
    have e : newR text = (savedR 1 text, true) := by simp [newR, hs]
    rw [e] at hR
    exact impl_checkpoint tab (by omega) hs fun v F s k o f => hR v F s k o.osl f

theorem newR_len (text : ByteArray) : (newR text).1.length ≤ 91 := by
  unfold newR
  split
  · rename_i h
    rw [savedR_len]
    have := many64 h
    omega
  · simp

theorem heldRawS {v : Value} {xs : List Rw} {k : Nat} (h : RSl 2 RRaw (Av.get w0 σ) v (mkS mkRaw (fun _ => 2) k xs)) (hk : k + sumBy (fun _ => 2) xs ≤ 1000000000000) {R : Value → Vw → Prop}
    (hR : ∀ σ', Keeps σ σ' → R (.int .i64 ((k + sumBy (fun _ => 2) xs : Nat) : Int)) σ') : AC Tryd.prog w0 n_laws_heldRawS [v, .int .i64 (k : Nat)] σ R := by
  refine ac_laws_heldRawS ?_
  unfold vc_laws_heldRawS
  refine held_loop (n := 2) (Rel := RRaw) (fun _ _ _ _ hl h => h) (mk := mkRaw) (cnt := fun _ => 2) h hk ?_ hR
  intro j x k' s K hj hkb hx hk' hrd hyj hK
  have hl := h.le
  rw [mkS_len] at hl
  simp only [vget, List.getD_cons_zero, List.getD_cons_succ]
  refine hrd.atf hyj 0 (by omega) fun es g ⟨h1, _⟩ hg => ?_
  have hg : g 0 = .int .i64 (k' : Nat) := by rw [h1] at hg; simpa [encRaw, mkRaw] using hg.symm
  rw [hg, pBin_ne, pIf_d]
  refine ⟨fun h => absurd rfl h, fun _ => ?_⟩
  rw [pBin_add (by omega)]
  refine hrd.atfp hyj 1 (by omega) fun q es g ⟨h1, _⟩ hg => ?_
  have hg : g 0 = .string (mtext (k' + 1)) := by rw [h1] at hg; simpa [encRaw, mkRaw] using hg.symm
  refine markText (k := k' + 1) (by omega) fun s1 k1 => ⟨k1.stay, ?_⟩
  rw [hg, pBin_sne, pIf_d]
  refine ⟨fun h => absurd rfl h, fun _ => ?_⟩
  rw [pBin_add (by omega), pBin_add (by omega)]
  have := hK _ k1
  rw [show ((k' + 2 : Nat) : Int) = ((k' : Nat) : Int) + 1 + 1 by omega] at this
  exact this

theorem law_StoreNew (tab : Tab w0) {text : ByteArray} (hs : text.size ≤ 9223372036854775807) {R : Value → Vw → Prop} (hR : ∀ σ', R (.bool true) σ') : AC Tryd.prog w0 n_laws_FnExactStoreNew [.string text] σ R := by
  refine ac_laws_FnExactStoreNew ?_
  unfold vc_laws_FnExactStoreNew
  rw [pLenS_s, pBin_gt, pIf_d]
  refine ⟨fun _ => hR _, fun _ => ?_⟩
  have hl := newR_len text
  have hc := sum_const (α := Rw) 2 (newR text).1
  have ok := ok_raw w0
  refine spec_StoreNew fun w Fw s1 k1 ow fw => ?_
  rw [pExtract_s rfl, pExtract_s rfl]
  have hw := ow.rel ok
  refine impl_StoreNew tab fun g Fg s2 k2 og fg => ?_
  rw [pExtract_s rfl, pExtract_s rfl]
  refine eqRawS (og.rel ok) (hw.mono k2.le fun _ _ h => h) ?_
  rw [pUn_not, pIf_b]
  refine ⟨fun h => by simp at h, fun _ => ?_⟩
  rw [pBin_b (v := .bool false) (by kernel_rfl) (by simp), pIf_b]
  refine ⟨nofun, fun _ => ?_⟩
  refine markRawS (k := 1) og (by omega) fun s3 k3 o3 => ?_
  refine heldRawS (k := 1) (o3.rel ok) (by omega) fun s4 k4 => ?_
  rw [pBin_lt, pIf_d]
  refine ⟨fun h => by omega, fun _ => ?_⟩
  rw [pBin_ne, pIf_d]
  refine ⟨fun h => absurd rfl h, fun _ => ?_⟩
  have k24 : Keeps s1 s4 := (k3.old k2 fg).trans k4
  have o4 := o3.frame ok (k4.but_at fun b hb => (o3.dom ok b hb).2)
  refine impl_StoreNew tab fun h Fh s5 k5 oh fh => ?_
  rw [pExtract_s rfl, pExtract_s rfl]
  refine eqRawS (oh.rel ok) (hw.mono (k24.trans k5).le fun _ _ h => h) ?_
  rw [pUn_not, pIf_b]
  refine ⟨fun h => by simp at h, fun _ => ?_⟩
  rw [pBin_b (v := .bool false) (by kernel_rfl) (by simp), pIf_b]
  refine ⟨nofun, fun _ => ?_⟩
  have o5 := o4.frame ok (k5.but_at fun b hb => (o4.dom ok b hb).2)
  refine heldRawS (k := 1) (o5.rel ok) (by omega) fun s6 k6 => ?_
  rw [pBin_lt, pIf_d]
  refine ⟨fun h => by omega, fun _ => ?_⟩
  rw [pBin_ne, pIf_d]
  exact ⟨fun h => absurd rfl h, fun _ => hR _⟩
end
end Go.Proofs.YtkndffhcncmbjaaDoor

/- The law FnExactStoreNew holds: it returns true, and the input reads as it did. No condition. -/
namespace Go.Proofs.YtkndffhcncmbjaaDoor.fnExactStoreNew
open Go.ChangeShapes Go.WideShapes Go.ChangeAt Go.RowKit Go.Av
set_option linter.unusedVariables false
set_option linter.unusedSimpArgs false
theorem own : ownKnob Tryd.prog.godebug = none := by kernel_rfl
theorem laidOut : laidOutB Tryd.prog = true := by kernel_rfl
abbrev laidL : List (String × DataW Unit) := [("math/bits.deBruijn32tab", Rows.laid_math_bits_deBruijn32tab), ("math/bits.deBruijn64tab", Rows.laid_math_bits_deBruijn64tab), ("internal/strconv.uint64pow10", Rows.laid_internal_strconv_uint64pow10)]
theorem door_met (os : Os) (args : Array Value) : laidMetH Tryd.prog laidL ((World.doorLaid Tryd.prog 400 os).forCall (fun _ _ => 0) ⟨#[], args, []⟩).memory :=
  laidMetH_of_parts3 (fuel := 8) (laidMet_of_run' 8 (by kernel_rfl) (by kernel_rfl)) (by kernel_rfl) (by kernel_rfl)
theorem gPow : Tryd.prog.globalNamed "internal/strconv.uint64pow10" = some 0 := by kernel_rfl
theorem tab_of {W : World} (h : laidMetH Tryd.prog laidL W) : Tab W := by
  rw [MakeChecks.laidMetH_plain _ _ _ (by kernel_rfl)] at h
  have h3 := laidMet.tail (laidMet.tail h)
  have e : (Rows.laid_internal_strconv_uint64pow10 : DataW Unit) = Lib.tabData .u64 Lib.pow10Tab := by kernel_rfl
  rw [e] at h3
  have ht : Lib.TabIs Tryd.prog W "internal/strconv.uint64pow10" .u64 Lib.pow10Tab := Lib.tabIs_of_head (n := 20) (t := 158) (e := 145) gPow (by kernel_rfl) (by kernel_rfl) (by kernel_rfl) (by kernel_rfl) (by kernel_rfl) h3
  intro w hw
  refine var?_below hw gPow ?_ ht
  rcases Nat.lt_or_ge 0 W.heap.size with h' | h'
  · exact h'
  · simp [Lib.TabIs, World.var?, gPow, Array.getElem?_eq_none h'] at ht
set_option maxRecDepth 100000 in
theorem lifted (os : Os) (started : os.Started) (H : Type) (enc : TypeId × Value → H) :
    ReturnsInHanded {} Tryd.checked os 3 .any (fun w args => (Rows.fnExactStoreNewSpec.pre enc Tryd.prog Tryd.f3 [] false w args ∧ laidMetH Tryd.prog laidL w) ∧ sizedMet enc Tryd.prog Tryd.f3 (OpenSpec.ofChange Rows.fnExactStoreNewSpec) false w args)
      (Rows.fnExactStoreNewSpec.post enc Tryd.prog Tryd.f3 false true false false) := by
  refine returnsInHanded_of_change_and (C := Tryd.checked) (X := fun w _ => laidMetH Tryd.prog laidL w) (fun _ _ _ hh h => h.of_heap hh) own started (by kernel_rfl) Tryd.func3
    (ChangeSpec.witness_shaped (enc := enc) (C := Tryd.checked) (os := os) (X := fun w _ => laidMetH Tryd.prog laidL w) false (World.doorLaid Tryd.prog 400 os) #[.string ⟨#[]⟩] 8 rfl (World.shaped_of_RefB (by kernel_rfl) (by kernel_rfl)) (by kernel_rfl) (by kernel_rfl) (by kernel_rfl) (door_met os _)) ?_
  intro W base args ds gs before hval0 hW _ _ hL _
  have hval : ∀ (j : Nat) t v, Tryd.f3.params[j]? = some t → args[j]? = some v → Value.okWide Tryd.prog W .any base t v := hval0
  have hW' := hW
  obtain ⟨p, q, hA0, hV, rfl, hfz, hnd⟩ := hW
  have hA : DataW.TrodAll enc Tryd.prog W 0 (fun _ => true) true Tryd.f3.params.toList args.toList ds p := hA0
  rw [Tryd.params3] at hA hval
  obtain ⟨v0, d0, rfl, rfl, h0⟩ := trodAll_one hA
  obtain ⟨rfl, rfl⟩ := trodVars_none hV
  obtain ⟨s0, rfl⟩ := okWide_string (t := 9) (by kernel_rfl) (hval 0 9 v0 rfl rfl)
  have h0k := h0
  obtain ⟨fuel0, hf0⟩ := h0
  clear hA0 hval0
  simp only [List.append_nil] at hW'
  have hlt : ∀ x ∈ p, x.block < W.heap.size := fun x hx => by simpa using hW'.lt x hx
  have hargs0 : ∀ (W' : World), Below W.heap.size W W' → DataW.Trod enc Tryd.prog W' 0 (fun b => decide (b < W.heap.size)) true 9 (.string s0) d0 p :=
    fun W' hn => Below.trod laidOut (by kernel_rfl) (of_decide_eq_true (by kernel_rfl)) h0k hn hlt
  obtain ⟨m0, e0, r0⟩ := open_str (t := 9) (by kernel_rfl) hf0
  have e0' : m0 = s0 := by
    have : [Value.string s0] = [.string m0] := e0
    cases this; rfl
  subst e0'
  refine ((law_StoreNew (tab_of hL) (R := fun v _ => v = .bool true) r0 (by intros; rfl)).calls).mono fun e W' ⟨v, σ', he, hv, bel⟩ => ?_
  subst he hv
  exact ⟨_, rfl, _, _, _, [], _, [], hW', trodAll_mk1 (shut_bool Tryd.underlying4 _), trodAll_mk1 (hargs0 W' bel), rfl, bel.frame _, fun h => by cases h⟩
theorem over : Rows.fnExactStoreNewRow.holds Tryd.pinned (OpenSpec.ofChange Rows.fnExactStoreNewSpec) :=
  OpenClaim.holds_of_wide 3 Tryd.f3 rfl rfl rfl rfl rfl rfl rfl ⟨rfl, rfl, rfl, rfl, rfl⟩ rfl rfl rfl rfl rfl (by kernel_rfl) Tryd.func3 (by kernel_rfl)
    (of_decide_eq_true (by kernel_rfl)) (by unfold Func.isWrapper; first | (rw [if_pos (by decide +kernel)]; kernel_rfl) | (rw [if_neg (by decide +kernel)]; exact ⟨rfl, rfl⟩))
    (fun os started H enc _ => lifted os started H enc)
/-- THE TIED CARD. -/
theorem proved : Rows.FnExactStoreNewCardSaid :=
  Claim7.holds_tied_plain_at .later [] [.data, .data, .data] true (true, "ce3683d55da6258caadab03feae6378e369979a4cdc02dba53ad676e561c3181") false
    over (fun _ h => by cases h) (by kernel_rfl) (fun _ h => by cases h) fnExactStoreNew_row_tie rfl ⟨rfl, rfl⟩ (by kernel_rfl) rfl
    (fun f fn hf hfn => by
      obtain rfl : f = 3 := Option.some.inj ((show Tryd.prog.funcNamed "loop.example/changetrail/laws.FnExactStoreNew" = some 3 by kernel_rfl).symm.trans hf) |>.symm
      obtain rfl : fn = Tryd.f3 := (Option.some.inj (Tryd.func3.symm.trans hfn)).symm
      exact ⟨by kernel_rfl, fun j t ht => by
        rw [Tryd.params3] at ht
        have hm : t ∈ [9] := by simpa using Array.mem_of_getElem? ht
        have hall : ([9].all fun u => !Tryd.prog.wantsStandIn u) = true := by kernel_rfl
        exact (show Tryd.prog.wantsStandIn t = false by simpa using List.all_eq_true.1 hall t hm)⟩)
    (by kernel_rfl)
end Go.Proofs.YtkndffhcncmbjaaDoor.fnExactStoreNew
namespace Go.Proofs.YtkndffhcncmbjaaDoor
/-- The row, under a short name, for the claim. -/
theorem fnExactStoreNew_holds : Rows.FnExactStoreNewCardSaid := fnExactStoreNew.proved
end Go.Proofs.YtkndffhcncmbjaaDoor
