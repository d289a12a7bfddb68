/-
  No cell of these rows narrows 'for every input' (looked for: loops, veiled, ifaces, maps, wideKeys, modest, calm, conditions, laid).
  DERIVED. THE GIVEN ROWS OF THIS SEAT. 4 by the template 'for every input the law returns true; each argument reads behind the call as it read before'; 0 by the template 'total and deterministic' (their statements: YtlfnfpdipghdiaaTotals.lean).
  GIVEN WITH THE SEED: the statements are not yours to turn. If you find one false, say at which input.
  Laid BY PROGRAM, IN A SANDBOX (cutbox-rows.mjs): the forced cells as the released guide's own fill.sh prints them over the translation d0bceef5ab5e9ef2… (all of the seat's roots in one cut). By AI agents, Wed Nov 11 2026. No macro, syntax, notation, axiom, sorry.
-/
import Derived.Test.YtlfnfpdipghdiaaChecked
import GoSem.Claim
import GoSem.ClaimJoined
import GoSem.ClaimMapViews
import Derived.JoinedTies
import Derived.KernelRfl
namespace Go.Proofs.Ytlfnfpdipghdiaa
/- THE CELL 'sum', in the pinned program and in every row, IS THE sha256 OF THE DUMP (.gsa) THAT YtlfnfpdipghdiaaProg.lean LOADS. Nothing in Lean hashes anything: it is a label: what it is worth is what the hold of that sum in a sandbox is worth. -/
noncomputable def Try.pinned : Pinned := { name := "ytlfnfpdipghdiaa", sum := "d0bceef5ab5e9ef25fbc79259c3788fa56bf9129bc7abb653bb97db4f5964fab", checked := Try.checked }
namespace Rows
def none {H : Type} : Left H := { results := [], args := [] }

/-- 'laws.FnPagesLeak': WHATEVER THE INPUT: true; the input reads as it did. -/
def fnPagesLeakSpec : ChangeSpec := { name := "fnPagesLeak", fn := fun _ => fun
  | [d] => { results := [.lit (.bool true)], args := [d] }
  | _ => none }
def fnPagesLeakRow : OpenClaim := { program := "ytlfnfpdipghdiaa", sum := "d0bceef5ab5e9ef25fbc79259c3788fa56bf9129bc7abb653bb97db4f5964fab", func := "loop.example/changetrail/laws.FnPagesLeak", spec := "fnPagesLeak", unfollowed := true, recurses := true, apart := false }
def FnPagesLeakSaid : Prop := fnPagesLeakRow.holds Try.pinned (OpenSpec.ofChange fnPagesLeakSpec)

/-- ITS FALSE NEIGHBOUR: 'it returns false'. Refute it at one input. -/
def fnPagesLeakWrong : ChangeSpec := { name := "fnPagesLeak", fn := fun _ => fun
  | [d] => { results := [.lit (.bool false)], args := [d] }
  | _ => none }
def FnPagesLeakWrongFalsely : Prop := fnPagesLeakRow.holds Try.pinned (OpenSpec.ofChange fnPagesLeakWrong)

/-- 'laws.FnDiskTwo': WHATEVER THE INPUT: true; the input reads as it did. -/
def fnDiskTwoSpec : ChangeSpec := { name := "fnDiskTwo", fn := fun _ => fun
  | [d] => { results := [.lit (.bool true)], args := [d] }
  | _ => none }
def fnDiskTwoRow : OpenClaim := { program := "ytlfnfpdipghdiaa", sum := "d0bceef5ab5e9ef25fbc79259c3788fa56bf9129bc7abb653bb97db4f5964fab", func := "loop.example/changetrail/laws.FnDiskTwo", spec := "fnDiskTwo", recurses := true, apart := false }
def FnDiskTwoSaid : Prop := fnDiskTwoRow.holds Try.pinned (OpenSpec.ofChange fnDiskTwoSpec)

/-- ITS FALSE NEIGHBOUR: 'it returns false'. Refute it at one input. -/
def fnDiskTwoWrong : ChangeSpec := { name := "fnDiskTwo", fn := fun _ => fun
  | [d] => { results := [.lit (.bool false)], args := [d] }
  | _ => none }
def FnDiskTwoWrongFalsely : Prop := fnDiskTwoRow.holds Try.pinned (OpenSpec.ofChange fnDiskTwoWrong)

/-- 'laws.FnDiskWrite': WHATEVER THE INPUT: true; the input reads as it did. -/
def fnDiskWriteSpec : ChangeSpec := { name := "fnDiskWrite", fn := fun _ => fun
  | [d] => { results := [.lit (.bool true)], args := [d] }
  | _ => none }
def fnDiskWriteRow : OpenClaim := { program := "ytlfnfpdipghdiaa", sum := "d0bceef5ab5e9ef25fbc79259c3788fa56bf9129bc7abb653bb97db4f5964fab", func := "loop.example/changetrail/laws.FnDiskWrite", spec := "fnDiskWrite", recurses := true, apart := false }
def FnDiskWriteSaid : Prop := fnDiskWriteRow.holds Try.pinned (OpenSpec.ofChange fnDiskWriteSpec)

/-- ITS FALSE NEIGHBOUR: 'it returns false'. Refute it at one input. -/
def fnDiskWriteWrong : ChangeSpec := { name := "fnDiskWrite", fn := fun _ => fun
  | [d] => { results := [.lit (.bool false)], args := [d] }
  | _ => none }
def FnDiskWriteWrongFalsely : Prop := fnDiskWriteRow.holds Try.pinned (OpenSpec.ofChange fnDiskWriteWrong)

/-- 'laws.FnPagesDrop': WHATEVER THE INPUT: true; the input reads as it did. -/
def fnPagesDropSpec : ChangeSpec := { name := "fnPagesDrop", fn := fun _ => fun
  | [d] => { results := [.lit (.bool true)], args := [d] }
  | _ => none }
def fnPagesDropRow : OpenClaim := { program := "ytlfnfpdipghdiaa", sum := "d0bceef5ab5e9ef25fbc79259c3788fa56bf9129bc7abb653bb97db4f5964fab", func := "loop.example/changetrail/laws.FnPagesDrop", spec := "fnPagesDrop", unfollowed := true, recurses := true, apart := false }
def FnPagesDropSaid : Prop := fnPagesDropRow.holds Try.pinned (OpenSpec.ofChange fnPagesDropSpec)

/-- ITS FALSE NEIGHBOUR: 'it returns false'. Refute it at one input. -/
def fnPagesDropWrong : ChangeSpec := { name := "fnPagesDrop", fn := fun _ => fun
  | [d] => { results := [.lit (.bool false)], args := [d] }
  | _ => none }
def FnPagesDropWrongFalsely : Prop := fnPagesDropRow.holds Try.pinned (OpenSpec.ofChange fnPagesDropWrong)

/- THE SECOND FORM. 'bulk': how many values and letters a reading holds, each counted each time it is reached (what is shared counts as often as it is met; a slice's spare places count too). A statement '..UptoSaid' is the law's where the arguments, and the package variables that the reading takes, are together of bulk at most 1048576: NARROWER than '..Said'. Prove '..Said' where nothing that the law and all that it calls make is longer than what came in: it says more and counts as full. Else prove '..UptoSaid'. A law counts once. -/
mutual
def uptoBulk {H : Type} : DataW H → Nat
  | .lit (.string bytes) => bytes.length + 1
  | .lit _ => 1
  | .nil => 1
  | .ptr d => uptoBulk d + 1
  | .slice elems spare => uptoBulkAll elems + uptoBulkAll spare + 1
  | .agg parts => uptoBulkAll parts + 1
  | .iface _ d => uptoBulk d + 1
  | .map entries => uptoBulkEntries entries + 1
  | .held _ => 1
def uptoBulkAll {H : Type} : List (DataW H) → Nat
  | [] => 0
  | d :: r => uptoBulk d + uptoBulkAll r
def uptoBulkEntries {H : Type} : List (Lit × DataW H) → Nat
  | [] => 0
  | x :: r => uptoBulkEntry x + uptoBulkEntries r
def uptoBulkEntry {H : Type} : Lit × DataW H → Nat
  | (.string bytes, d) => bytes.length + uptoBulk d + 1
  | (_, d) => uptoBulk d + 1
 end
def uptoSmall : (H : Type) → List (DataW H) → Bool := fun _ ds => decide (uptoBulkAll ds ≤ 1048576)
def OpenSpec.upto (s : _root_.Go.ChangeSpec) : _root_.Go.OpenSpec := { _root_.Go.OpenSpec.ofChange s with cond := some uptoSmall }

/-- 'laws.FnPagesLeak', WHERE WHAT IT READS IS OF BULK AT MOST 1048576: true; the input reads as it did. -/
def fnPagesLeakUptoRow : OpenClaim := { program := "ytlfnfpdipghdiaa", sum := "d0bceef5ab5e9ef25fbc79259c3788fa56bf9129bc7abb653bb97db4f5964fab", func := "loop.example/changetrail/laws.FnPagesLeak", spec := "fnPagesLeak", unfollowed := true, recurses := true, apart := false, narrowed := true }
def FnPagesLeakUptoSaid : Prop := fnPagesLeakUptoRow.holds Try.pinned (OpenSpec.upto fnPagesLeakSpec)

/-- 'laws.FnDiskTwo', WHERE WHAT IT READS IS OF BULK AT MOST 1048576: true; the input reads as it did. -/
def fnDiskTwoUptoRow : OpenClaim := { program := "ytlfnfpdipghdiaa", sum := "d0bceef5ab5e9ef25fbc79259c3788fa56bf9129bc7abb653bb97db4f5964fab", func := "loop.example/changetrail/laws.FnDiskTwo", spec := "fnDiskTwo", recurses := true, apart := false, narrowed := true }
def FnDiskTwoUptoSaid : Prop := fnDiskTwoUptoRow.holds Try.pinned (OpenSpec.upto fnDiskTwoSpec)

/-- 'laws.FnDiskWrite', WHERE WHAT IT READS IS OF BULK AT MOST 1048576: true; the input reads as it did. -/
def fnDiskWriteUptoRow : OpenClaim := { program := "ytlfnfpdipghdiaa", sum := "d0bceef5ab5e9ef25fbc79259c3788fa56bf9129bc7abb653bb97db4f5964fab", func := "loop.example/changetrail/laws.FnDiskWrite", spec := "fnDiskWrite", recurses := true, apart := false, narrowed := true }
def FnDiskWriteUptoSaid : Prop := fnDiskWriteUptoRow.holds Try.pinned (OpenSpec.upto fnDiskWriteSpec)

/-- 'laws.FnPagesDrop', WHERE WHAT IT READS IS OF BULK AT MOST 1048576: true; the input reads as it did. -/
def fnPagesDropUptoRow : OpenClaim := { program := "ytlfnfpdipghdiaa", sum := "d0bceef5ab5e9ef25fbc79259c3788fa56bf9129bc7abb653bb97db4f5964fab", func := "loop.example/changetrail/laws.FnPagesDrop", spec := "fnPagesDrop", unfollowed := true, recurses := true, apart := false, narrowed := true }
def FnPagesDropUptoSaid : Prop := fnPagesDropUptoRow.holds Try.pinned (OpenSpec.upto fnPagesDropSpec)

end Rows
end Go.Proofs.Ytlfnfpdipghdiaa
