/-
  NARROWER THAN 'FOR EVERY INPUT', by the rows' own cells (each row's printed sentence says how): FnExactTrailBelow: loops · FnExactTrailCovers: loops.
  DERIVED. THE GIVEN ROWS OF THIS SEAT. 4 by the template 'for every input the law returns true; each argument reads behind the call as it read before'; 0 by the template 'total and deterministic' (their statements: YtkbhjejalkbogaaTotals.lean).
  GIVEN WITH THE SEED: the statements are not yours to turn. If you find one false, say at which input.
  Laid BY PROGRAM, IN A SANDBOX (cutbox-rows.mjs): the forced cells as the released guide's own fill.sh prints them over the translation 8129d2af22d5dc7f… (all of the seat's roots in one cut). By AI agents, Wed Nov 11 2026. No macro, syntax, notation, axiom, sorry.
-/
import Derived.Test.YtkbhjejalkbogaaChecked
import GoSem.Claim
import GoSem.ClaimJoined
import GoSem.ClaimMapViews
import Derived.JoinedTies
import Derived.KernelRfl
namespace Go.Proofs.Ytkbhjejalkbogaa
/- THE CELL 'sum', in the pinned program and in every row, IS THE sha256 OF THE DUMP (.gsa) THAT YtkbhjejalkbogaaProg.lean LOADS. Nothing in Lean hashes anything: it is a label: what it is worth is what the hold of that sum in a sandbox is worth. -/
noncomputable def Try.pinned : Pinned := { name := "ytkbhjejalkbogaa", sum := "8129d2af22d5dc7f3517cc06631a899e53af439c84d3819ed32249ed747d8977", checked := Try.checked }
namespace Rows
def none {H : Type} : Left H := { results := [], args := [] }

/-- 'laws.FnTreeSee': WHATEVER THE INPUT: true; the input reads as it did. -/
def fnTreeSeeSpec : ChangeSpec := { name := "fnTreeSee", fn := fun _ => fun
  | [d1, d2] => { results := [.lit (.bool true)], args := [d1, d2] }
  | _ => none }
def fnTreeSeeRow : OpenClaim := { program := "ytkbhjejalkbogaa", sum := "8129d2af22d5dc7f3517cc06631a899e53af439c84d3819ed32249ed747d8977", func := "loop.example/changetrail/laws.FnTreeSee", spec := "fnTreeSee", recurses := true, apart := false }
def FnTreeSeeSaid : Prop := fnTreeSeeRow.holds Try.pinned (OpenSpec.ofChange fnTreeSeeSpec)

/-- ITS FALSE NEIGHBOUR: 'it returns false'. Refute it at one input. -/
def fnTreeSeeWrong : ChangeSpec := { name := "fnTreeSee", fn := fun _ => fun
  | [d1, d2] => { results := [.lit (.bool false)], args := [d1, d2] }
  | _ => none }
def FnTreeSeeWrongFalsely : Prop := fnTreeSeeRow.holds Try.pinned (OpenSpec.ofChange fnTreeSeeWrong)

/-- 'laws.FnExactTrailBelow': WHATEVER THE INPUT: true; the input reads as it did. -/
def fnExactTrailBelowSpec : ChangeSpec := { name := "fnExactTrailBelow", fn := fun _ => fun
  | [d1, d2, d3] => { results := [.lit (.bool true)], args := [d1, d2, d3] }
  | _ => none }
def fnExactTrailBelowRow : OpenClaim := { program := "ytkbhjejalkbogaa", sum := "8129d2af22d5dc7f3517cc06631a899e53af439c84d3819ed32249ed747d8977", func := "loop.example/changetrail/laws.FnExactTrailBelow", spec := "fnExactTrailBelow", recurses := true, loops := true, apart := false }
def FnExactTrailBelowSaid : Prop := fnExactTrailBelowRow.holds Try.pinned (OpenSpec.ofChange fnExactTrailBelowSpec)

/-- ITS FALSE NEIGHBOUR: 'it returns false'. Refute it at one input. -/
def fnExactTrailBelowWrong : ChangeSpec := { name := "fnExactTrailBelow", fn := fun _ => fun
  | [d1, d2, d3] => { results := [.lit (.bool false)], args := [d1, d2, d3] }
  | _ => none }
def FnExactTrailBelowWrongFalsely : Prop := fnExactTrailBelowRow.holds Try.pinned (OpenSpec.ofChange fnExactTrailBelowWrong)

/-- 'laws.FnExactTrailCovers': WHATEVER THE INPUT: true; the input reads as it did. -/
def fnExactTrailCoversSpec : ChangeSpec := { name := "fnExactTrailCovers", fn := fun _ => fun
  | [d1, d2, d3] => { results := [.lit (.bool true)], args := [d1, d2, d3] }
  | _ => none }
def fnExactTrailCoversRow : OpenClaim := { program := "ytkbhjejalkbogaa", sum := "8129d2af22d5dc7f3517cc06631a899e53af439c84d3819ed32249ed747d8977", func := "loop.example/changetrail/laws.FnExactTrailCovers", spec := "fnExactTrailCovers", unfollowed := true, recurses := true, loops := true, apart := false }
def FnExactTrailCoversSaid : Prop := fnExactTrailCoversRow.holds Try.pinned (OpenSpec.ofChange fnExactTrailCoversSpec)

/-- ITS FALSE NEIGHBOUR: 'it returns false'. Refute it at one input. -/
def fnExactTrailCoversWrong : ChangeSpec := { name := "fnExactTrailCovers", fn := fun _ => fun
  | [d1, d2, d3] => { results := [.lit (.bool false)], args := [d1, d2, d3] }
  | _ => none }
def FnExactTrailCoversWrongFalsely : Prop := fnExactTrailCoversRow.holds Try.pinned (OpenSpec.ofChange fnExactTrailCoversWrong)

/-- 'laws.FnDiffNone': WHATEVER THE INPUT: true; the input reads as it did. -/
def fnDiffNoneSpec : ChangeSpec := { name := "fnDiffNone", fn := fun _ => fun
  | [d] => { results := [.lit (.bool true)], args := [d] }
  | _ => none }
def fnDiffNoneRow : OpenClaim := { program := "ytkbhjejalkbogaa", sum := "8129d2af22d5dc7f3517cc06631a899e53af439c84d3819ed32249ed747d8977", func := "loop.example/changetrail/laws.FnDiffNone", spec := "fnDiffNone", unfollowed := true, recurses := true, apart := false }
def FnDiffNoneSaid : Prop := fnDiffNoneRow.holds Try.pinned (OpenSpec.ofChange fnDiffNoneSpec)

/-- ITS FALSE NEIGHBOUR: 'it returns false'. Refute it at one input. -/
def fnDiffNoneWrong : ChangeSpec := { name := "fnDiffNone", fn := fun _ => fun
  | [d] => { results := [.lit (.bool false)], args := [d] }
  | _ => none }
def FnDiffNoneWrongFalsely : Prop := fnDiffNoneRow.holds Try.pinned (OpenSpec.ofChange fnDiffNoneWrong)

/- THE SECOND FORM. 'bulk': how many values and letters a reading holds, each counted each time it is reached (what is shared counts as often as it is met; a slice's spare places count too). A statement '..UptoSaid' is the law's where the arguments, and the package variables that the reading takes, are together of bulk at most 1048576: NARROWER than '..Said'. Prove '..Said' where nothing that the law and all that it calls make is longer than what came in: it says more and counts as full. Else prove '..UptoSaid'. A law counts once. -/
mutual
def uptoBulk {H : Type} : DataW H → Nat
  | .lit (.string bytes) => bytes.length + 1
  | .lit _ => 1
  | .nil => 1
  | .ptr d => uptoBulk d + 1
  | .slice elems spare => uptoBulkAll elems + uptoBulkAll spare + 1
  | .agg parts => uptoBulkAll parts + 1
  | .iface _ d => uptoBulk d + 1
  | .map entries => uptoBulkEntries entries + 1
  | .held _ => 1
def uptoBulkAll {H : Type} : List (DataW H) → Nat
  | [] => 0
  | d :: r => uptoBulk d + uptoBulkAll r
def uptoBulkEntries {H : Type} : List (Lit × DataW H) → Nat
  | [] => 0
  | x :: r => uptoBulkEntry x + uptoBulkEntries r
def uptoBulkEntry {H : Type} : Lit × DataW H → Nat
  | (.string bytes, d) => bytes.length + uptoBulk d + 1
  | (_, d) => uptoBulk d + 1
 end
def uptoSmall : (H : Type) → List (DataW H) → Bool := fun _ ds => decide (uptoBulkAll ds ≤ 1048576)
def OpenSpec.upto (s : _root_.Go.ChangeSpec) : _root_.Go.OpenSpec := { _root_.Go.OpenSpec.ofChange s with cond := some uptoSmall }

/-- 'laws.FnTreeSee', WHERE WHAT IT READS IS OF BULK AT MOST 1048576: true; the input reads as it did. -/
def fnTreeSeeUptoRow : OpenClaim := { program := "ytkbhjejalkbogaa", sum := "8129d2af22d5dc7f3517cc06631a899e53af439c84d3819ed32249ed747d8977", func := "loop.example/changetrail/laws.FnTreeSee", spec := "fnTreeSee", recurses := true, apart := false, narrowed := true }
def FnTreeSeeUptoSaid : Prop := fnTreeSeeUptoRow.holds Try.pinned (OpenSpec.upto fnTreeSeeSpec)

/-- 'laws.FnExactTrailBelow', WHERE WHAT IT READS IS OF BULK AT MOST 1048576: true; the input reads as it did. -/
def fnExactTrailBelowUptoRow : OpenClaim := { program := "ytkbhjejalkbogaa", sum := "8129d2af22d5dc7f3517cc06631a899e53af439c84d3819ed32249ed747d8977", func := "loop.example/changetrail/laws.FnExactTrailBelow", spec := "fnExactTrailBelow", recurses := true, loops := true, apart := false, narrowed := true }
def FnExactTrailBelowUptoSaid : Prop := fnExactTrailBelowUptoRow.holds Try.pinned (OpenSpec.upto fnExactTrailBelowSpec)

/-- 'laws.FnExactTrailCovers', WHERE WHAT IT READS IS OF BULK AT MOST 1048576: true; the input reads as it did. -/
def fnExactTrailCoversUptoRow : OpenClaim := { program := "ytkbhjejalkbogaa", sum := "8129d2af22d5dc7f3517cc06631a899e53af439c84d3819ed32249ed747d8977", func := "loop.example/changetrail/laws.FnExactTrailCovers", spec := "fnExactTrailCovers", unfollowed := true, recurses := true, loops := true, apart := false, narrowed := true }
def FnExactTrailCoversUptoSaid : Prop := fnExactTrailCoversUptoRow.holds Try.pinned (OpenSpec.upto fnExactTrailCoversSpec)

/-- 'laws.FnDiffNone', WHERE WHAT IT READS IS OF BULK AT MOST 1048576: true; the input reads as it did. -/
def fnDiffNoneUptoRow : OpenClaim := { program := "ytkbhjejalkbogaa", sum := "8129d2af22d5dc7f3517cc06631a899e53af439c84d3819ed32249ed747d8977", func := "loop.example/changetrail/laws.FnDiffNone", spec := "fnDiffNone", unfollowed := true, recurses := true, apart := false, narrowed := true }
def FnDiffNoneUptoSaid : Prop := fnDiffNoneUptoRow.holds Try.pinned (OpenSpec.upto fnDiffNoneSpec)

end Rows
end Go.Proofs.Ytkbhjejalkbogaa
