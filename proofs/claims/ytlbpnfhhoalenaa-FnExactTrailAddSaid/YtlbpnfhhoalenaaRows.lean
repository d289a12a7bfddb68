/-
  NARROWER THAN 'FOR EVERY INPUT', by the rows' own cells (each row's printed sentence says how): FnExactTreeAt: loops · FnExactTrailOf: loops · FnExactDiffWalk: loops.
  DERIVED. THE GIVEN ROWS OF THIS SEAT. 6 by the template 'for every input the law returns true; each argument reads behind the call as it read before'; 0 by the template 'total and deterministic' (their statements: YtlbpnfhhoalenaaTotals.lean).
  GIVEN WITH THE SEED: the statements are not yours to turn. If you find one false, say at which input.
  Laid BY PROGRAM, IN A SANDBOX (cutbox-rows.mjs): the forced cells as the released guide's own fill.sh prints them over the translation 59ff76df27c06944… (all of the seat's roots in one cut). By AI agents, Wed Nov 11 2026. No macro, syntax, notation, axiom, sorry.
-/
import Derived.Test.YtlbpnfhhoalenaaChecked
import GoSem.Claim
import GoSem.ClaimJoined
import GoSem.ClaimMapViews
import Derived.JoinedTies
import Derived.KernelRfl
namespace Go.Proofs.Ytlbpnfhhoalenaa
/- THE CELL 'sum', in the pinned program and in every row, IS THE sha256 OF THE DUMP (.gsa) THAT YtlbpnfhhoalenaaProg.lean LOADS. Nothing in Lean hashes anything: it is a label: what it is worth is what the hold of that sum in a sandbox is worth. -/
noncomputable def Try.pinned : Pinned := { name := "ytlbpnfhhoalenaa", sum := "59ff76df27c06944b9be0ad29f57bec768ed449220482694de69f7f81780a0eb", checked := Try.checked }
namespace Rows
def none {H : Type} : Left H := { results := [], args := [] }

/-- 'laws.FnExactTrailShow': WHATEVER THE INPUT: true; the input reads as it did. -/
def fnExactTrailShowSpec : ChangeSpec := { name := "fnExactTrailShow", fn := fun _ => fun
  | [d] => { results := [.lit (.bool true)], args := [d] }
  | _ => none }
def fnExactTrailShowRow : OpenClaim := { program := "ytlbpnfhhoalenaa", sum := "59ff76df27c06944b9be0ad29f57bec768ed449220482694de69f7f81780a0eb", func := "loop.example/changetrail/laws.FnExactTrailShow", spec := "fnExactTrailShow", inPlace := ["internal/abi.NoEscape", "internal/bytealg.MakeNoZero"], apart := false }
def FnExactTrailShowSaid : Prop := fnExactTrailShowRow.holds Try.pinned (OpenSpec.ofChange fnExactTrailShowSpec)

/-- ITS FALSE NEIGHBOUR: 'it returns false'. Refute it at one input. -/
def fnExactTrailShowWrong : ChangeSpec := { name := "fnExactTrailShow", fn := fun _ => fun
  | [d] => { results := [.lit (.bool false)], args := [d] }
  | _ => none }
def FnExactTrailShowWrongFalsely : Prop := fnExactTrailShowRow.holds Try.pinned (OpenSpec.ofChange fnExactTrailShowWrong)

/-- 'laws.FnExactTreeAt': WHATEVER THE INPUT: true; the input reads as it did. -/
def fnExactTreeAtSpec : ChangeSpec := { name := "fnExactTreeAt", fn := fun _ => fun
  | [d1, d2] => { results := [.lit (.bool true)], args := [d1, d2] }
  | _ => none }
def fnExactTreeAtRow : OpenClaim := { program := "ytlbpnfhhoalenaa", sum := "59ff76df27c06944b9be0ad29f57bec768ed449220482694de69f7f81780a0eb", func := "loop.example/changetrail/laws.FnExactTreeAt", spec := "fnExactTreeAt", recurses := true, loops := true, apart := false }
def FnExactTreeAtSaid : Prop := fnExactTreeAtRow.holds Try.pinned (OpenSpec.ofChange fnExactTreeAtSpec)

/-- ITS FALSE NEIGHBOUR: 'it returns false'. Refute it at one input. -/
def fnExactTreeAtWrong : ChangeSpec := { name := "fnExactTreeAt", fn := fun _ => fun
  | [d1, d2] => { results := [.lit (.bool false)], args := [d1, d2] }
  | _ => none }
def FnExactTreeAtWrongFalsely : Prop := fnExactTreeAtRow.holds Try.pinned (OpenSpec.ofChange fnExactTreeAtWrong)

/-- 'laws.FnExactTrailOf': WHATEVER THE INPUT: true; the input reads as it did. -/
def fnExactTrailOfSpec : ChangeSpec := { name := "fnExactTrailOf", fn := fun _ => fun
  | [d1, d2] => { results := [.lit (.bool true)], args := [d1, d2] }
  | _ => none }
def fnExactTrailOfRow : OpenClaim := { program := "ytlbpnfhhoalenaa", sum := "59ff76df27c06944b9be0ad29f57bec768ed449220482694de69f7f81780a0eb", func := "loop.example/changetrail/laws.FnExactTrailOf", spec := "fnExactTrailOf", recurses := true, loops := true, apart := false }
def FnExactTrailOfSaid : Prop := fnExactTrailOfRow.holds Try.pinned (OpenSpec.ofChange fnExactTrailOfSpec)

/-- ITS FALSE NEIGHBOUR: 'it returns false'. Refute it at one input. -/
def fnExactTrailOfWrong : ChangeSpec := { name := "fnExactTrailOf", fn := fun _ => fun
  | [d1, d2] => { results := [.lit (.bool false)], args := [d1, d2] }
  | _ => none }
def FnExactTrailOfWrongFalsely : Prop := fnExactTrailOfRow.holds Try.pinned (OpenSpec.ofChange fnExactTrailOfWrong)

/-- 'laws.FnTreeSee': WHATEVER THE INPUT: true; the input reads as it did. -/
def fnTreeSeeSpec : ChangeSpec := { name := "fnTreeSee", fn := fun _ => fun
  | [d1, d2] => { results := [.lit (.bool true)], args := [d1, d2] }
  | _ => none }
def fnTreeSeeRow : OpenClaim := { program := "ytlbpnfhhoalenaa", sum := "59ff76df27c06944b9be0ad29f57bec768ed449220482694de69f7f81780a0eb", func := "loop.example/changetrail/laws.FnTreeSee", spec := "fnTreeSee", recurses := true, apart := false }
def FnTreeSeeSaid : Prop := fnTreeSeeRow.holds Try.pinned (OpenSpec.ofChange fnTreeSeeSpec)

/-- ITS FALSE NEIGHBOUR: 'it returns false'. Refute it at one input. -/
def fnTreeSeeWrong : ChangeSpec := { name := "fnTreeSee", fn := fun _ => fun
  | [d1, d2] => { results := [.lit (.bool false)], args := [d1, d2] }
  | _ => none }
def FnTreeSeeWrongFalsely : Prop := fnTreeSeeRow.holds Try.pinned (OpenSpec.ofChange fnTreeSeeWrong)

/-- 'laws.FnExactTrailAdd': WHATEVER THE INPUT: true; the input reads as it did. -/
def fnExactTrailAddSpec : ChangeSpec := { name := "fnExactTrailAdd", fn := fun _ => fun
  | [d1, d2] => { results := [.lit (.bool true)], args := [d1, d2] }
  | _ => none }
def fnExactTrailAddRow : OpenClaim := { program := "ytlbpnfhhoalenaa", sum := "59ff76df27c06944b9be0ad29f57bec768ed449220482694de69f7f81780a0eb", func := "loop.example/changetrail/laws.FnExactTrailAdd", spec := "fnExactTrailAdd", unfollowed := true, recurses := true, apart := false }
def FnExactTrailAddSaid : Prop := fnExactTrailAddRow.holds Try.pinned (OpenSpec.ofChange fnExactTrailAddSpec)

/-- ITS FALSE NEIGHBOUR: 'it returns false'. Refute it at one input. -/
def fnExactTrailAddWrong : ChangeSpec := { name := "fnExactTrailAdd", fn := fun _ => fun
  | [d1, d2] => { results := [.lit (.bool false)], args := [d1, d2] }
  | _ => none }
def FnExactTrailAddWrongFalsely : Prop := fnExactTrailAddRow.holds Try.pinned (OpenSpec.ofChange fnExactTrailAddWrong)

/-- 'laws.FnExactDiffWalk': WHATEVER THE INPUT: true; the input reads as it did. -/
def fnExactDiffWalkSpec : ChangeSpec := { name := "fnExactDiffWalk", fn := fun _ => fun
  | [d1, d2] => { results := [.lit (.bool true)], args := [d1, d2] }
  | _ => none }
def fnExactDiffWalkRow : OpenClaim := { program := "ytlbpnfhhoalenaa", sum := "59ff76df27c06944b9be0ad29f57bec768ed449220482694de69f7f81780a0eb", func := "loop.example/changetrail/laws.FnExactDiffWalk", spec := "fnExactDiffWalk", unfollowed := true, recurses := true, loops := true, apart := false }
def FnExactDiffWalkSaid : Prop := fnExactDiffWalkRow.holds Try.pinned (OpenSpec.ofChange fnExactDiffWalkSpec)

/-- ITS FALSE NEIGHBOUR: 'it returns false'. Refute it at one input. -/
def fnExactDiffWalkWrong : ChangeSpec := { name := "fnExactDiffWalk", fn := fun _ => fun
  | [d1, d2] => { results := [.lit (.bool false)], args := [d1, d2] }
  | _ => none }
def FnExactDiffWalkWrongFalsely : Prop := fnExactDiffWalkRow.holds Try.pinned (OpenSpec.ofChange fnExactDiffWalkWrong)

/- THE SECOND FORM. 'bulk': how many values and letters a reading holds, each counted each time it is reached (what is shared counts as often as it is met; a slice's spare places count too). A statement '..UptoSaid' is the law's where the arguments, and the package variables that the reading takes, are together of bulk at most 1048576: NARROWER than '..Said'. Prove '..Said' where nothing that the law and all that it calls make is longer than what came in: it says more and counts as full. Else prove '..UptoSaid'. A law counts once. -/
mutual
def uptoBulk {H : Type} : DataW H → Nat
  | .lit (.string bytes) => bytes.length + 1
  | .lit _ => 1
  | .nil => 1
  | .ptr d => uptoBulk d + 1
  | .slice elems spare => uptoBulkAll elems + uptoBulkAll spare + 1
  | .agg parts => uptoBulkAll parts + 1
  | .iface _ d => uptoBulk d + 1
  | .map entries => uptoBulkEntries entries + 1
  | .held _ => 1
def uptoBulkAll {H : Type} : List (DataW H) → Nat
  | [] => 0
  | d :: r => uptoBulk d + uptoBulkAll r
def uptoBulkEntries {H : Type} : List (Lit × DataW H) → Nat
  | [] => 0
  | x :: r => uptoBulkEntry x + uptoBulkEntries r
def uptoBulkEntry {H : Type} : Lit × DataW H → Nat
  | (.string bytes, d) => bytes.length + uptoBulk d + 1
  | (_, d) => uptoBulk d + 1
 end
def uptoSmall : (H : Type) → List (DataW H) → Bool := fun _ ds => decide (uptoBulkAll ds ≤ 1048576)
def OpenSpec.upto (s : _root_.Go.ChangeSpec) : _root_.Go.OpenSpec := { _root_.Go.OpenSpec.ofChange s with cond := some uptoSmall }

/-- 'laws.FnExactTrailShow', WHERE WHAT IT READS IS OF BULK AT MOST 1048576: true; the input reads as it did. -/
def fnExactTrailShowUptoRow : OpenClaim := { program := "ytlbpnfhhoalenaa", sum := "59ff76df27c06944b9be0ad29f57bec768ed449220482694de69f7f81780a0eb", func := "loop.example/changetrail/laws.FnExactTrailShow", spec := "fnExactTrailShow", inPlace := ["internal/abi.NoEscape", "internal/bytealg.MakeNoZero"], apart := false, narrowed := true }
def FnExactTrailShowUptoSaid : Prop := fnExactTrailShowUptoRow.holds Try.pinned (OpenSpec.upto fnExactTrailShowSpec)

/-- 'laws.FnExactTreeAt', WHERE WHAT IT READS IS OF BULK AT MOST 1048576: true; the input reads as it did. -/
def fnExactTreeAtUptoRow : OpenClaim := { program := "ytlbpnfhhoalenaa", sum := "59ff76df27c06944b9be0ad29f57bec768ed449220482694de69f7f81780a0eb", func := "loop.example/changetrail/laws.FnExactTreeAt", spec := "fnExactTreeAt", recurses := true, loops := true, apart := false, narrowed := true }
def FnExactTreeAtUptoSaid : Prop := fnExactTreeAtUptoRow.holds Try.pinned (OpenSpec.upto fnExactTreeAtSpec)

/-- 'laws.FnExactTrailOf', WHERE WHAT IT READS IS OF BULK AT MOST 1048576: true; the input reads as it did. -/
def fnExactTrailOfUptoRow : OpenClaim := { program := "ytlbpnfhhoalenaa", sum := "59ff76df27c06944b9be0ad29f57bec768ed449220482694de69f7f81780a0eb", func := "loop.example/changetrail/laws.FnExactTrailOf", spec := "fnExactTrailOf", recurses := true, loops := true, apart := false, narrowed := true }
def FnExactTrailOfUptoSaid : Prop := fnExactTrailOfUptoRow.holds Try.pinned (OpenSpec.upto fnExactTrailOfSpec)

/-- 'laws.FnTreeSee', WHERE WHAT IT READS IS OF BULK AT MOST 1048576: true; the input reads as it did. -/
def fnTreeSeeUptoRow : OpenClaim := { program := "ytlbpnfhhoalenaa", sum := "59ff76df27c06944b9be0ad29f57bec768ed449220482694de69f7f81780a0eb", func := "loop.example/changetrail/laws.FnTreeSee", spec := "fnTreeSee", recurses := true, apart := false, narrowed := true }
def FnTreeSeeUptoSaid : Prop := fnTreeSeeUptoRow.holds Try.pinned (OpenSpec.upto fnTreeSeeSpec)

/-- 'laws.FnExactTrailAdd', WHERE WHAT IT READS IS OF BULK AT MOST 1048576: true; the input reads as it did. -/
def fnExactTrailAddUptoRow : OpenClaim := { program := "ytlbpnfhhoalenaa", sum := "59ff76df27c06944b9be0ad29f57bec768ed449220482694de69f7f81780a0eb", func := "loop.example/changetrail/laws.FnExactTrailAdd", spec := "fnExactTrailAdd", unfollowed := true, recurses := true, apart := false, narrowed := true }
def FnExactTrailAddUptoSaid : Prop := fnExactTrailAddUptoRow.holds Try.pinned (OpenSpec.upto fnExactTrailAddSpec)

/-- 'laws.FnExactDiffWalk', WHERE WHAT IT READS IS OF BULK AT MOST 1048576: true; the input reads as it did. -/
def fnExactDiffWalkUptoRow : OpenClaim := { program := "ytlbpnfhhoalenaa", sum := "59ff76df27c06944b9be0ad29f57bec768ed449220482694de69f7f81780a0eb", func := "loop.example/changetrail/laws.FnExactDiffWalk", spec := "fnExactDiffWalk", unfollowed := true, recurses := true, loops := true, apart := false, narrowed := true }
def FnExactDiffWalkUptoSaid : Prop := fnExactDiffWalkUptoRow.holds Try.pinned (OpenSpec.upto fnExactDiffWalkSpec)

end Rows
end Go.Proofs.Ytlbpnfhhoalenaa
