/-
  NARROWER THAN 'FOR EVERY INPUT', by the rows' own cells (each row's printed sentence says how): FnExactTrailDiff: loops.
  DERIVED. THE GIVEN ROWS OF THIS SEAT. 4 by the template 'for every input the law returns true; each argument reads behind the call as it read before'; 0 by the template 'total and deterministic' (their statements: YtkbhjejalkbogaaGreatTotals.lean).
  GIVEN WITH THE SEED: the statements are not yours to turn. If you find one false, say at which input.
  Laid BY PROGRAM, IN A SANDBOX (cutbox-rows.mjs): the forced cells as the released guide's own fill.sh prints them over the translation b3b9fc90c0c63752… (all of the seat's roots in one cut). By AI agents, Wed Nov 11 2026. No macro, syntax, notation, axiom, sorry.
-/
import Derived.Test.YtkbhjejalkbogaaGreatChecked
import GoSem.Claim
import GoSem.ClaimJoined
import GoSem.ClaimMapViews
import Derived.JoinedTies
import Derived.KernelRfl
namespace Go.Proofs.YtkbhjejalkbogaaGreat
/- THE CELL 'sum', in the pinned program and in every row, IS THE sha256 OF THE DUMP (.gsa) THAT YtkbhjejalkbogaaGreatProg.lean LOADS. Nothing in Lean hashes anything: it is a label: what it is worth is what the hold of that sum in a sandbox is worth. -/
noncomputable def Tryz.pinned : Pinned := { name := "ytkbhjejalkbogaagreat", sum := "b3b9fc90c0c63752d0d9c63a841be282163a8c7c0b3059186cea4f73636c2bbe", checked := Tryz.checked }
namespace Rows
def none {H : Type} : Left H := { results := [], args := [] }

/-- 'laws.FnTrailMore': WHATEVER THE INPUT: true; the input reads as it did. -/
def fnTrailMoreSpec : ChangeSpec := { name := "fnTrailMore", fn := fun _ => fun
  | [d1, d2] => { results := [.lit (.bool true)], args := [d1, d2] }
  | _ => none }
def fnTrailMoreRow : OpenClaim := { program := "ytkbhjejalkbogaagreat", sum := "b3b9fc90c0c63752d0d9c63a841be282163a8c7c0b3059186cea4f73636c2bbe", func := "loop.example/changetrail/laws.FnTrailMore", spec := "fnTrailMore", unfollowed := true, recurses := true, apart := false }
def FnTrailMoreSaid : Prop := fnTrailMoreRow.holds Tryz.pinned (OpenSpec.ofChange fnTrailMoreSpec)

/-- ITS FALSE NEIGHBOUR: 'it returns false'. Refute it at one input. -/
def fnTrailMoreWrong : ChangeSpec := { name := "fnTrailMore", fn := fun _ => fun
  | [d1, d2] => { results := [.lit (.bool false)], args := [d1, d2] }
  | _ => none }
def FnTrailMoreWrongFalsely : Prop := fnTrailMoreRow.holds Tryz.pinned (OpenSpec.ofChange fnTrailMoreWrong)

/-- 'laws.FnExactTrailDiff': WHATEVER THE INPUT: true; the input reads as it did. -/
def fnExactTrailDiffSpec : ChangeSpec := { name := "fnExactTrailDiff", fn := fun _ => fun
  | [d1, d2, d3] => { results := [.lit (.bool true)], args := [d1, d2, d3] }
  | _ => none }
def fnExactTrailDiffRow : OpenClaim := { program := "ytkbhjejalkbogaagreat", sum := "b3b9fc90c0c63752d0d9c63a841be282163a8c7c0b3059186cea4f73636c2bbe", func := "loop.example/changetrail/laws.FnExactTrailDiff", spec := "fnExactTrailDiff", unfollowed := true, recurses := true, loops := true, apart := false }
def FnExactTrailDiffSaid : Prop := fnExactTrailDiffRow.holds Tryz.pinned (OpenSpec.ofChange fnExactTrailDiffSpec)

/-- ITS FALSE NEIGHBOUR: 'it returns false'. Refute it at one input. -/
def fnExactTrailDiffWrong : ChangeSpec := { name := "fnExactTrailDiff", fn := fun _ => fun
  | [d1, d2, d3] => { results := [.lit (.bool false)], args := [d1, d2, d3] }
  | _ => none }
def FnExactTrailDiffWrongFalsely : Prop := fnExactTrailDiffRow.holds Tryz.pinned (OpenSpec.ofChange fnExactTrailDiffWrong)

/-- 'laws.FnTrailAdd': WHATEVER THE INPUT: true; the input reads as it did. -/
def fnTrailAddSpec : ChangeSpec := { name := "fnTrailAdd", fn := fun _ => fun
  | [d1, d2] => { results := [.lit (.bool true)], args := [d1, d2] }
  | _ => none }
def fnTrailAddRow : OpenClaim := { program := "ytkbhjejalkbogaagreat", sum := "b3b9fc90c0c63752d0d9c63a841be282163a8c7c0b3059186cea4f73636c2bbe", func := "loop.example/changetrail/laws.FnTrailAdd", spec := "fnTrailAdd", unfollowed := true, recurses := true, apart := false }
def FnTrailAddSaid : Prop := fnTrailAddRow.holds Tryz.pinned (OpenSpec.ofChange fnTrailAddSpec)

/-- ITS FALSE NEIGHBOUR: 'it returns false'. Refute it at one input. -/
def fnTrailAddWrong : ChangeSpec := { name := "fnTrailAdd", fn := fun _ => fun
  | [d1, d2] => { results := [.lit (.bool false)], args := [d1, d2] }
  | _ => none }
def FnTrailAddWrongFalsely : Prop := fnTrailAddRow.holds Tryz.pinned (OpenSpec.ofChange fnTrailAddWrong)

/-- 'laws.FnTrailCost': WHATEVER THE INPUT: true; the input reads as it did. -/
def fnTrailCostSpec : ChangeSpec := { name := "fnTrailCost", fn := fun _ => fun
  | [d] => { results := [.lit (.bool true)], args := [d] }
  | _ => none }
def fnTrailCostRow : OpenClaim := { program := "ytkbhjejalkbogaagreat", sum := "b3b9fc90c0c63752d0d9c63a841be282163a8c7c0b3059186cea4f73636c2bbe", func := "loop.example/changetrail/laws.FnTrailCost", spec := "fnTrailCost", unfollowed := true, recurses := true, apart := false }
def FnTrailCostSaid : Prop := fnTrailCostRow.holds Tryz.pinned (OpenSpec.ofChange fnTrailCostSpec)

/-- ITS FALSE NEIGHBOUR: 'it returns false'. Refute it at one input. -/
def fnTrailCostWrong : ChangeSpec := { name := "fnTrailCost", fn := fun _ => fun
  | [d] => { results := [.lit (.bool false)], args := [d] }
  | _ => none }
def FnTrailCostWrongFalsely : Prop := fnTrailCostRow.holds Tryz.pinned (OpenSpec.ofChange fnTrailCostWrong)

/- THE SECOND FORM. 'bulk': how many values and letters a reading holds, each counted each time it is reached (what is shared counts as often as it is met; a slice's spare places count too). A statement '..UptoSaid' is the law's where the arguments, and the package variables that the reading takes, are together of bulk at most 1048576: NARROWER than '..Said'. Prove '..Said' where nothing that the law and all that it calls make is longer than what came in: it says more and counts as full. Else prove '..UptoSaid'. A law counts once. -/
mutual
def uptoBulk {H : Type} : DataW H → Nat
  | .lit (.string bytes) => bytes.length + 1
  | .lit _ => 1
  | .nil => 1
  | .ptr d => uptoBulk d + 1
  | .slice elems spare => uptoBulkAll elems + uptoBulkAll spare + 1
  | .agg parts => uptoBulkAll parts + 1
  | .iface _ d => uptoBulk d + 1
  | .map entries => uptoBulkEntries entries + 1
  | .held _ => 1
def uptoBulkAll {H : Type} : List (DataW H) → Nat
  | [] => 0
  | d :: r => uptoBulk d + uptoBulkAll r
def uptoBulkEntries {H : Type} : List (Lit × DataW H) → Nat
  | [] => 0
  | x :: r => uptoBulkEntry x + uptoBulkEntries r
def uptoBulkEntry {H : Type} : Lit × DataW H → Nat
  | (.string bytes, d) => bytes.length + uptoBulk d + 1
  | (_, d) => uptoBulk d + 1
 end
def uptoSmall : (H : Type) → List (DataW H) → Bool := fun _ ds => decide (uptoBulkAll ds ≤ 1048576)
def OpenSpec.upto (s : _root_.Go.ChangeSpec) : _root_.Go.OpenSpec := { _root_.Go.OpenSpec.ofChange s with cond := some uptoSmall }

/-- 'laws.FnTrailMore', WHERE WHAT IT READS IS OF BULK AT MOST 1048576: true; the input reads as it did. -/
def fnTrailMoreUptoRow : OpenClaim := { program := "ytkbhjejalkbogaagreat", sum := "b3b9fc90c0c63752d0d9c63a841be282163a8c7c0b3059186cea4f73636c2bbe", func := "loop.example/changetrail/laws.FnTrailMore", spec := "fnTrailMore", unfollowed := true, recurses := true, apart := false, narrowed := true }
def FnTrailMoreUptoSaid : Prop := fnTrailMoreUptoRow.holds Tryz.pinned (OpenSpec.upto fnTrailMoreSpec)

/-- 'laws.FnExactTrailDiff', WHERE WHAT IT READS IS OF BULK AT MOST 1048576: true; the input reads as it did. -/
def fnExactTrailDiffUptoRow : OpenClaim := { program := "ytkbhjejalkbogaagreat", sum := "b3b9fc90c0c63752d0d9c63a841be282163a8c7c0b3059186cea4f73636c2bbe", func := "loop.example/changetrail/laws.FnExactTrailDiff", spec := "fnExactTrailDiff", unfollowed := true, recurses := true, loops := true, apart := false, narrowed := true }
def FnExactTrailDiffUptoSaid : Prop := fnExactTrailDiffUptoRow.holds Tryz.pinned (OpenSpec.upto fnExactTrailDiffSpec)

/-- 'laws.FnTrailAdd', WHERE WHAT IT READS IS OF BULK AT MOST 1048576: true; the input reads as it did. -/
def fnTrailAddUptoRow : OpenClaim := { program := "ytkbhjejalkbogaagreat", sum := "b3b9fc90c0c63752d0d9c63a841be282163a8c7c0b3059186cea4f73636c2bbe", func := "loop.example/changetrail/laws.FnTrailAdd", spec := "fnTrailAdd", unfollowed := true, recurses := true, apart := false, narrowed := true }
def FnTrailAddUptoSaid : Prop := fnTrailAddUptoRow.holds Tryz.pinned (OpenSpec.upto fnTrailAddSpec)

/-- 'laws.FnTrailCost', WHERE WHAT IT READS IS OF BULK AT MOST 1048576: true; the input reads as it did. -/
def fnTrailCostUptoRow : OpenClaim := { program := "ytkbhjejalkbogaagreat", sum := "b3b9fc90c0c63752d0d9c63a841be282163a8c7c0b3059186cea4f73636c2bbe", func := "loop.example/changetrail/laws.FnTrailCost", spec := "fnTrailCost", unfollowed := true, recurses := true, apart := false, narrowed := true }
def FnTrailCostUptoSaid : Prop := fnTrailCostUptoRow.holds Tryz.pinned (OpenSpec.upto fnTrailCostSpec)

end Rows
end Go.Proofs.YtkbhjejalkbogaaGreat
