/-
  NARROWER THAN 'FOR EVERY INPUT', by the rows' own cells (each row's printed sentence says how): FnExactTreeOk: loops · FnExactTreeCount: loops · FnExactTreeRead: loops · FnExactTreeList: loops.
  DERIVED. THE GIVEN ROWS OF THIS SEAT. 12 by the template 'for every input the law returns true; each argument reads behind the call as it read before'; 0 by the template 'total and deterministic' (their statements: YtpplljcblgnnhaaTotals.lean).
  GIVEN WITH THE SEED: the statements are not yours to turn. If you find one false, say at which input.
  Laid BY PROGRAM, IN A SANDBOX (cutbox-rows.mjs): the forced cells as the released guide's own fill.sh prints them over the translation 0a56e1d014aaa50e… (all of the seat's roots in one cut). By AI agents, Wed Nov 11 2026. No macro, syntax, notation, axiom, sorry.
-/
import Derived.Test.YtpplljcblgnnhaaChecked
import GoSem.Claim
import GoSem.ClaimJoined
import GoSem.ClaimMapViews
import Derived.JoinedTies
import Derived.KernelRfl
namespace Go.Proofs.Ytpplljcblgnnhaa
/- THE CELL 'sum', in the pinned program and in every row, IS THE sha256 OF THE DUMP (.gsa) THAT YtpplljcblgnnhaaProg.lean LOADS. Nothing in Lean hashes anything: it is a label: what it is worth is what the hold of that sum in a sandbox is worth. -/
noncomputable def Try.pinned : Pinned := { name := "ytpplljcblgnnhaa", sum := "0a56e1d014aaa50e3ae6731ccc81d8acb9372f96139822cbf5ea6b7963581093", checked := Try.checked }
namespace Rows
def none {H : Type} : Left H := { results := [], args := [] }

/-- 'laws.FnExactConstants': WHATEVER THE INPUT: true; the input reads as it did. -/
def fnExactConstantsSpec : ChangeSpec := { name := "fnExactConstants", fn := fun _ => fun
  | [] => { results := [.lit (.bool true)], args := [] }
  | _ => none }
def fnExactConstantsRow : OpenClaim := { program := "ytpplljcblgnnhaa", sum := "0a56e1d014aaa50e3ae6731ccc81d8acb9372f96139822cbf5ea6b7963581093", func := "loop.example/changetrail/laws.FnExactConstants", spec := "fnExactConstants", apart := false }
def FnExactConstantsSaid : Prop := fnExactConstantsRow.holds Try.pinned (OpenSpec.ofChange fnExactConstantsSpec)

/-- ITS FALSE NEIGHBOUR: 'it returns false'. Refute it at one input. -/
def fnExactConstantsWrong : ChangeSpec := { name := "fnExactConstants", fn := fun _ => fun
  | [] => { results := [.lit (.bool false)], args := [] }
  | _ => none }
def FnExactConstantsWrongFalsely : Prop := fnExactConstantsRow.holds Try.pinned (OpenSpec.ofChange fnExactConstantsWrong)

/-- 'laws.FnExactPagesNeed': WHATEVER THE INPUT: true; the input reads as it did. -/
def fnExactPagesNeedSpec : ChangeSpec := { name := "fnExactPagesNeed", fn := fun _ => fun
  | [d] => { results := [.lit (.bool true)], args := [d] }
  | _ => none }
def fnExactPagesNeedRow : OpenClaim := { program := "ytpplljcblgnnhaa", sum := "0a56e1d014aaa50e3ae6731ccc81d8acb9372f96139822cbf5ea6b7963581093", func := "loop.example/changetrail/laws.FnExactPagesNeed", spec := "fnExactPagesNeed", apart := false }
def FnExactPagesNeedSaid : Prop := fnExactPagesNeedRow.holds Try.pinned (OpenSpec.ofChange fnExactPagesNeedSpec)

/-- ITS FALSE NEIGHBOUR: 'it returns false'. Refute it at one input. -/
def fnExactPagesNeedWrong : ChangeSpec := { name := "fnExactPagesNeed", fn := fun _ => fun
  | [d] => { results := [.lit (.bool false)], args := [d] }
  | _ => none }
def FnExactPagesNeedWrongFalsely : Prop := fnExactPagesNeedRow.holds Try.pinned (OpenSpec.ofChange fnExactPagesNeedWrong)

/-- 'laws.FnExactDiskOk': WHATEVER THE INPUT: true; the input reads as it did. -/
def fnExactDiskOkSpec : ChangeSpec := { name := "fnExactDiskOk", fn := fun _ => fun
  | [d] => { results := [.lit (.bool true)], args := [d] }
  | _ => none }
def fnExactDiskOkRow : OpenClaim := { program := "ytpplljcblgnnhaa", sum := "0a56e1d014aaa50e3ae6731ccc81d8acb9372f96139822cbf5ea6b7963581093", func := "loop.example/changetrail/laws.FnExactDiskOk", spec := "fnExactDiskOk", apart := false }
def FnExactDiskOkSaid : Prop := fnExactDiskOkRow.holds Try.pinned (OpenSpec.ofChange fnExactDiskOkSpec)

/-- ITS FALSE NEIGHBOUR: 'it returns false'. Refute it at one input. -/
def fnExactDiskOkWrong : ChangeSpec := { name := "fnExactDiskOk", fn := fun _ => fun
  | [d] => { results := [.lit (.bool false)], args := [d] }
  | _ => none }
def FnExactDiskOkWrongFalsely : Prop := fnExactDiskOkRow.holds Try.pinned (OpenSpec.ofChange fnExactDiskOkWrong)

/-- 'laws.FnExactPagesNew': WHATEVER THE INPUT: true; the input reads as it did. -/
def fnExactPagesNewSpec : ChangeSpec := { name := "fnExactPagesNew", fn := fun _ => fun
  | [] => { results := [.lit (.bool true)], args := [] }
  | _ => none }
def fnExactPagesNewRow : OpenClaim := { program := "ytpplljcblgnnhaa", sum := "0a56e1d014aaa50e3ae6731ccc81d8acb9372f96139822cbf5ea6b7963581093", func := "loop.example/changetrail/laws.FnExactPagesNew", spec := "fnExactPagesNew", apart := false }
def FnExactPagesNewSaid : Prop := fnExactPagesNewRow.holds Try.pinned (OpenSpec.ofChange fnExactPagesNewSpec)

/-- ITS FALSE NEIGHBOUR: 'it returns false'. Refute it at one input. -/
def fnExactPagesNewWrong : ChangeSpec := { name := "fnExactPagesNew", fn := fun _ => fun
  | [] => { results := [.lit (.bool false)], args := [] }
  | _ => none }
def FnExactPagesNewWrongFalsely : Prop := fnExactPagesNewRow.holds Try.pinned (OpenSpec.ofChange fnExactPagesNewWrong)

/-- 'laws.FnExactTreeOk': WHATEVER THE INPUT: true; the input reads as it did. -/
def fnExactTreeOkSpec : ChangeSpec := { name := "fnExactTreeOk", fn := fun _ => fun
  | [d] => { results := [.lit (.bool true)], args := [d] }
  | _ => none }
def fnExactTreeOkRow : OpenClaim := { program := "ytpplljcblgnnhaa", sum := "0a56e1d014aaa50e3ae6731ccc81d8acb9372f96139822cbf5ea6b7963581093", func := "loop.example/changetrail/laws.FnExactTreeOk", spec := "fnExactTreeOk", recurses := true, loops := true, apart := false }
def FnExactTreeOkSaid : Prop := fnExactTreeOkRow.holds Try.pinned (OpenSpec.ofChange fnExactTreeOkSpec)

/-- ITS FALSE NEIGHBOUR: 'it returns false'. Refute it at one input. -/
def fnExactTreeOkWrong : ChangeSpec := { name := "fnExactTreeOk", fn := fun _ => fun
  | [d] => { results := [.lit (.bool false)], args := [d] }
  | _ => none }
def FnExactTreeOkWrongFalsely : Prop := fnExactTreeOkRow.holds Try.pinned (OpenSpec.ofChange fnExactTreeOkWrong)

/-- 'laws.FnExactTreeCount': WHATEVER THE INPUT: true; the input reads as it did. -/
def fnExactTreeCountSpec : ChangeSpec := { name := "fnExactTreeCount", fn := fun _ => fun
  | [d] => { results := [.lit (.bool true)], args := [d] }
  | _ => none }
def fnExactTreeCountRow : OpenClaim := { program := "ytpplljcblgnnhaa", sum := "0a56e1d014aaa50e3ae6731ccc81d8acb9372f96139822cbf5ea6b7963581093", func := "loop.example/changetrail/laws.FnExactTreeCount", spec := "fnExactTreeCount", recurses := true, loops := true, apart := false }
def FnExactTreeCountSaid : Prop := fnExactTreeCountRow.holds Try.pinned (OpenSpec.ofChange fnExactTreeCountSpec)

/-- ITS FALSE NEIGHBOUR: 'it returns false'. Refute it at one input. -/
def fnExactTreeCountWrong : ChangeSpec := { name := "fnExactTreeCount", fn := fun _ => fun
  | [d] => { results := [.lit (.bool false)], args := [d] }
  | _ => none }
def FnExactTreeCountWrongFalsely : Prop := fnExactTreeCountRow.holds Try.pinned (OpenSpec.ofChange fnExactTreeCountWrong)

/-- 'laws.FnExactDiskWrite': WHATEVER THE INPUT: true; the input reads as it did. -/
def fnExactDiskWriteSpec : ChangeSpec := { name := "fnExactDiskWrite", fn := fun _ => fun
  | [d1, d2, d3] => { results := [.lit (.bool true)], args := [d1, d2, d3] }
  | _ => none }
def fnExactDiskWriteRow : OpenClaim := { program := "ytpplljcblgnnhaa", sum := "0a56e1d014aaa50e3ae6731ccc81d8acb9372f96139822cbf5ea6b7963581093", func := "loop.example/changetrail/laws.FnExactDiskWrite", spec := "fnExactDiskWrite", apart := false }
def FnExactDiskWriteSaid : Prop := fnExactDiskWriteRow.holds Try.pinned (OpenSpec.ofChange fnExactDiskWriteSpec)

/-- ITS FALSE NEIGHBOUR: 'it returns false'. Refute it at one input. -/
def fnExactDiskWriteWrong : ChangeSpec := { name := "fnExactDiskWrite", fn := fun _ => fun
  | [d1, d2, d3] => { results := [.lit (.bool false)], args := [d1, d2, d3] }
  | _ => none }
def FnExactDiskWriteWrongFalsely : Prop := fnExactDiskWriteRow.holds Try.pinned (OpenSpec.ofChange fnExactDiskWriteWrong)

/-- 'laws.FnExactTrailOk': WHATEVER THE INPUT: true; the input reads as it did. -/
def fnExactTrailOkSpec : ChangeSpec := { name := "fnExactTrailOk", fn := fun _ => fun
  | [d] => { results := [.lit (.bool true)], args := [d] }
  | _ => none }
def fnExactTrailOkRow : OpenClaim := { program := "ytpplljcblgnnhaa", sum := "0a56e1d014aaa50e3ae6731ccc81d8acb9372f96139822cbf5ea6b7963581093", func := "loop.example/changetrail/laws.FnExactTrailOk", spec := "fnExactTrailOk", apart := false }
def FnExactTrailOkSaid : Prop := fnExactTrailOkRow.holds Try.pinned (OpenSpec.ofChange fnExactTrailOkSpec)

/-- ITS FALSE NEIGHBOUR: 'it returns false'. Refute it at one input. -/
def fnExactTrailOkWrong : ChangeSpec := { name := "fnExactTrailOk", fn := fun _ => fun
  | [d] => { results := [.lit (.bool false)], args := [d] }
  | _ => none }
def FnExactTrailOkWrongFalsely : Prop := fnExactTrailOkRow.holds Try.pinned (OpenSpec.ofChange fnExactTrailOkWrong)

/-- 'laws.FnExactPagesOk': WHATEVER THE INPUT: true; the input reads as it did. -/
def fnExactPagesOkSpec : ChangeSpec := { name := "fnExactPagesOk", fn := fun _ => fun
  | [d] => { results := [.lit (.bool true)], args := [d] }
  | _ => none }
def fnExactPagesOkRow : OpenClaim := { program := "ytpplljcblgnnhaa", sum := "0a56e1d014aaa50e3ae6731ccc81d8acb9372f96139822cbf5ea6b7963581093", func := "loop.example/changetrail/laws.FnExactPagesOk", spec := "fnExactPagesOk", apart := false }
def FnExactPagesOkSaid : Prop := fnExactPagesOkRow.holds Try.pinned (OpenSpec.ofChange fnExactPagesOkSpec)

/-- ITS FALSE NEIGHBOUR: 'it returns false'. Refute it at one input. -/
def fnExactPagesOkWrong : ChangeSpec := { name := "fnExactPagesOk", fn := fun _ => fun
  | [d] => { results := [.lit (.bool false)], args := [d] }
  | _ => none }
def FnExactPagesOkWrongFalsely : Prop := fnExactPagesOkRow.holds Try.pinned (OpenSpec.ofChange fnExactPagesOkWrong)

/-- 'laws.FnExactTreeRead': WHATEVER THE INPUT: true; the input reads as it did. -/
def fnExactTreeReadSpec : ChangeSpec := { name := "fnExactTreeRead", fn := fun _ => fun
  | [d1, d2, d3, d4] => { results := [.lit (.bool true)], args := [d1, d2, d3, d4] }
  | _ => none }
def fnExactTreeReadRow : OpenClaim := { program := "ytpplljcblgnnhaa", sum := "0a56e1d014aaa50e3ae6731ccc81d8acb9372f96139822cbf5ea6b7963581093", func := "loop.example/changetrail/laws.FnExactTreeRead", spec := "fnExactTreeRead", recurses := true, loops := true, apart := false }
def FnExactTreeReadSaid : Prop := fnExactTreeReadRow.holds Try.pinned (OpenSpec.ofChange fnExactTreeReadSpec)

/-- ITS FALSE NEIGHBOUR: 'it returns false'. Refute it at one input. -/
def fnExactTreeReadWrong : ChangeSpec := { name := "fnExactTreeRead", fn := fun _ => fun
  | [d1, d2, d3, d4] => { results := [.lit (.bool false)], args := [d1, d2, d3, d4] }
  | _ => none }
def FnExactTreeReadWrongFalsely : Prop := fnExactTreeReadRow.holds Try.pinned (OpenSpec.ofChange fnExactTreeReadWrong)

/-- 'laws.FnExactPagesFree': WHATEVER THE INPUT: true; the input reads as it did. -/
def fnExactPagesFreeSpec : ChangeSpec := { name := "fnExactPagesFree", fn := fun _ => fun
  | [d] => { results := [.lit (.bool true)], args := [d] }
  | _ => none }
def fnExactPagesFreeRow : OpenClaim := { program := "ytpplljcblgnnhaa", sum := "0a56e1d014aaa50e3ae6731ccc81d8acb9372f96139822cbf5ea6b7963581093", func := "loop.example/changetrail/laws.FnExactPagesFree", spec := "fnExactPagesFree", apart := false }
def FnExactPagesFreeSaid : Prop := fnExactPagesFreeRow.holds Try.pinned (OpenSpec.ofChange fnExactPagesFreeSpec)

/-- ITS FALSE NEIGHBOUR: 'it returns false'. Refute it at one input. -/
def fnExactPagesFreeWrong : ChangeSpec := { name := "fnExactPagesFree", fn := fun _ => fun
  | [d] => { results := [.lit (.bool false)], args := [d] }
  | _ => none }
def FnExactPagesFreeWrongFalsely : Prop := fnExactPagesFreeRow.holds Try.pinned (OpenSpec.ofChange fnExactPagesFreeWrong)

/-- 'laws.FnExactTreeList': WHATEVER THE INPUT: true; the input reads as it did. -/
def fnExactTreeListSpec : ChangeSpec := { name := "fnExactTreeList", fn := fun _ => fun
  | [d1, d2] => { results := [.lit (.bool true)], args := [d1, d2] }
  | _ => none }
def fnExactTreeListRow : OpenClaim := { program := "ytpplljcblgnnhaa", sum := "0a56e1d014aaa50e3ae6731ccc81d8acb9372f96139822cbf5ea6b7963581093", func := "loop.example/changetrail/laws.FnExactTreeList", spec := "fnExactTreeList", recurses := true, loops := true, apart := false }
def FnExactTreeListSaid : Prop := fnExactTreeListRow.holds Try.pinned (OpenSpec.ofChange fnExactTreeListSpec)

/-- ITS FALSE NEIGHBOUR: 'it returns false'. Refute it at one input. -/
def fnExactTreeListWrong : ChangeSpec := { name := "fnExactTreeList", fn := fun _ => fun
  | [d1, d2] => { results := [.lit (.bool false)], args := [d1, d2] }
  | _ => none }
def FnExactTreeListWrongFalsely : Prop := fnExactTreeListRow.holds Try.pinned (OpenSpec.ofChange fnExactTreeListWrong)

/- THE SECOND FORM. 'bulk': how many values and letters a reading holds, each counted each time it is reached (what is shared counts as often as it is met; a slice's spare places count too). A statement '..UptoSaid' is the law's where the arguments, and the package variables that the reading takes, are together of bulk at most 1048576: NARROWER than '..Said'. Prove '..Said' where nothing that the law and all that it calls make is longer than what came in: it says more and counts as full. Else prove '..UptoSaid'. A law counts once. -/
mutual
def uptoBulk {H : Type} : DataW H → Nat
  | .lit (.string bytes) => bytes.length + 1
  | .lit _ => 1
  | .nil => 1
  | .ptr d => uptoBulk d + 1
  | .slice elems spare => uptoBulkAll elems + uptoBulkAll spare + 1
  | .agg parts => uptoBulkAll parts + 1
  | .iface _ d => uptoBulk d + 1
  | .map entries => uptoBulkEntries entries + 1
  | .held _ => 1
def uptoBulkAll {H : Type} : List (DataW H) → Nat
  | [] => 0
  | d :: r => uptoBulk d + uptoBulkAll r
def uptoBulkEntries {H : Type} : List (Lit × DataW H) → Nat
  | [] => 0
  | x :: r => uptoBulkEntry x + uptoBulkEntries r
def uptoBulkEntry {H : Type} : Lit × DataW H → Nat
  | (.string bytes, d) => bytes.length + uptoBulk d + 1
  | (_, d) => uptoBulk d + 1
 end
def uptoSmall : (H : Type) → List (DataW H) → Bool := fun _ ds => decide (uptoBulkAll ds ≤ 1048576)
def OpenSpec.upto (s : _root_.Go.ChangeSpec) : _root_.Go.OpenSpec := { _root_.Go.OpenSpec.ofChange s with cond := some uptoSmall }

/-- 'laws.FnExactConstants', WHERE WHAT IT READS IS OF BULK AT MOST 1048576: true; the input reads as it did. -/
def fnExactConstantsUptoRow : OpenClaim := { program := "ytpplljcblgnnhaa", sum := "0a56e1d014aaa50e3ae6731ccc81d8acb9372f96139822cbf5ea6b7963581093", func := "loop.example/changetrail/laws.FnExactConstants", spec := "fnExactConstants", apart := false, narrowed := true }
def FnExactConstantsUptoSaid : Prop := fnExactConstantsUptoRow.holds Try.pinned (OpenSpec.upto fnExactConstantsSpec)

/-- 'laws.FnExactPagesNeed', WHERE WHAT IT READS IS OF BULK AT MOST 1048576: true; the input reads as it did. -/
def fnExactPagesNeedUptoRow : OpenClaim := { program := "ytpplljcblgnnhaa", sum := "0a56e1d014aaa50e3ae6731ccc81d8acb9372f96139822cbf5ea6b7963581093", func := "loop.example/changetrail/laws.FnExactPagesNeed", spec := "fnExactPagesNeed", apart := false, narrowed := true }
def FnExactPagesNeedUptoSaid : Prop := fnExactPagesNeedUptoRow.holds Try.pinned (OpenSpec.upto fnExactPagesNeedSpec)

/-- 'laws.FnExactDiskOk', WHERE WHAT IT READS IS OF BULK AT MOST 1048576: true; the input reads as it did. -/
def fnExactDiskOkUptoRow : OpenClaim := { program := "ytpplljcblgnnhaa", sum := "0a56e1d014aaa50e3ae6731ccc81d8acb9372f96139822cbf5ea6b7963581093", func := "loop.example/changetrail/laws.FnExactDiskOk", spec := "fnExactDiskOk", apart := false, narrowed := true }
def FnExactDiskOkUptoSaid : Prop := fnExactDiskOkUptoRow.holds Try.pinned (OpenSpec.upto fnExactDiskOkSpec)

/-- 'laws.FnExactPagesNew', WHERE WHAT IT READS IS OF BULK AT MOST 1048576: true; the input reads as it did. -/
def fnExactPagesNewUptoRow : OpenClaim := { program := "ytpplljcblgnnhaa", sum := "0a56e1d014aaa50e3ae6731ccc81d8acb9372f96139822cbf5ea6b7963581093", func := "loop.example/changetrail/laws.FnExactPagesNew", spec := "fnExactPagesNew", apart := false, narrowed := true }
def FnExactPagesNewUptoSaid : Prop := fnExactPagesNewUptoRow.holds Try.pinned (OpenSpec.upto fnExactPagesNewSpec)

/-- 'laws.FnExactTreeOk', WHERE WHAT IT READS IS OF BULK AT MOST 1048576: true; the input reads as it did. -/
def fnExactTreeOkUptoRow : OpenClaim := { program := "ytpplljcblgnnhaa", sum := "0a56e1d014aaa50e3ae6731ccc81d8acb9372f96139822cbf5ea6b7963581093", func := "loop.example/changetrail/laws.FnExactTreeOk", spec := "fnExactTreeOk", recurses := true, loops := true, apart := false, narrowed := true }
def FnExactTreeOkUptoSaid : Prop := fnExactTreeOkUptoRow.holds Try.pinned (OpenSpec.upto fnExactTreeOkSpec)

/-- 'laws.FnExactTreeCount', WHERE WHAT IT READS IS OF BULK AT MOST 1048576: true; the input reads as it did. -/
def fnExactTreeCountUptoRow : OpenClaim := { program := "ytpplljcblgnnhaa", sum := "0a56e1d014aaa50e3ae6731ccc81d8acb9372f96139822cbf5ea6b7963581093", func := "loop.example/changetrail/laws.FnExactTreeCount", spec := "fnExactTreeCount", recurses := true, loops := true, apart := false, narrowed := true }
def FnExactTreeCountUptoSaid : Prop := fnExactTreeCountUptoRow.holds Try.pinned (OpenSpec.upto fnExactTreeCountSpec)

/-- 'laws.FnExactDiskWrite', WHERE WHAT IT READS IS OF BULK AT MOST 1048576: true; the input reads as it did. -/
def fnExactDiskWriteUptoRow : OpenClaim := { program := "ytpplljcblgnnhaa", sum := "0a56e1d014aaa50e3ae6731ccc81d8acb9372f96139822cbf5ea6b7963581093", func := "loop.example/changetrail/laws.FnExactDiskWrite", spec := "fnExactDiskWrite", apart := false, narrowed := true }
def FnExactDiskWriteUptoSaid : Prop := fnExactDiskWriteUptoRow.holds Try.pinned (OpenSpec.upto fnExactDiskWriteSpec)

/-- 'laws.FnExactTrailOk', WHERE WHAT IT READS IS OF BULK AT MOST 1048576: true; the input reads as it did. -/
def fnExactTrailOkUptoRow : OpenClaim := { program := "ytpplljcblgnnhaa", sum := "0a56e1d014aaa50e3ae6731ccc81d8acb9372f96139822cbf5ea6b7963581093", func := "loop.example/changetrail/laws.FnExactTrailOk", spec := "fnExactTrailOk", apart := false, narrowed := true }
def FnExactTrailOkUptoSaid : Prop := fnExactTrailOkUptoRow.holds Try.pinned (OpenSpec.upto fnExactTrailOkSpec)

/-- 'laws.FnExactPagesOk', WHERE WHAT IT READS IS OF BULK AT MOST 1048576: true; the input reads as it did. -/
def fnExactPagesOkUptoRow : OpenClaim := { program := "ytpplljcblgnnhaa", sum := "0a56e1d014aaa50e3ae6731ccc81d8acb9372f96139822cbf5ea6b7963581093", func := "loop.example/changetrail/laws.FnExactPagesOk", spec := "fnExactPagesOk", apart := false, narrowed := true }
def FnExactPagesOkUptoSaid : Prop := fnExactPagesOkUptoRow.holds Try.pinned (OpenSpec.upto fnExactPagesOkSpec)

/-- 'laws.FnExactTreeRead', WHERE WHAT IT READS IS OF BULK AT MOST 1048576: true; the input reads as it did. -/
def fnExactTreeReadUptoRow : OpenClaim := { program := "ytpplljcblgnnhaa", sum := "0a56e1d014aaa50e3ae6731ccc81d8acb9372f96139822cbf5ea6b7963581093", func := "loop.example/changetrail/laws.FnExactTreeRead", spec := "fnExactTreeRead", recurses := true, loops := true, apart := false, narrowed := true }
def FnExactTreeReadUptoSaid : Prop := fnExactTreeReadUptoRow.holds Try.pinned (OpenSpec.upto fnExactTreeReadSpec)

/-- 'laws.FnExactPagesFree', WHERE WHAT IT READS IS OF BULK AT MOST 1048576: true; the input reads as it did. -/
def fnExactPagesFreeUptoRow : OpenClaim := { program := "ytpplljcblgnnhaa", sum := "0a56e1d014aaa50e3ae6731ccc81d8acb9372f96139822cbf5ea6b7963581093", func := "loop.example/changetrail/laws.FnExactPagesFree", spec := "fnExactPagesFree", apart := false, narrowed := true }
def FnExactPagesFreeUptoSaid : Prop := fnExactPagesFreeUptoRow.holds Try.pinned (OpenSpec.upto fnExactPagesFreeSpec)

/-- 'laws.FnExactTreeList', WHERE WHAT IT READS IS OF BULK AT MOST 1048576: true; the input reads as it did. -/
def fnExactTreeListUptoRow : OpenClaim := { program := "ytpplljcblgnnhaa", sum := "0a56e1d014aaa50e3ae6731ccc81d8acb9372f96139822cbf5ea6b7963581093", func := "loop.example/changetrail/laws.FnExactTreeList", spec := "fnExactTreeList", recurses := true, loops := true, apart := false, narrowed := true }
def FnExactTreeListUptoSaid : Prop := fnExactTreeListUptoRow.holds Try.pinned (OpenSpec.upto fnExactTreeListSpec)

end Rows
end Go.Proofs.Ytpplljcblgnnhaa
