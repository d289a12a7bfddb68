/-
  DERIVED. GIVEN WITH THE SEED: THE CARDS: each row of YtkbhjejalkbogaaDoorRows.lean that lists a variable, with what it lists TIED to the program's text (the seventh form; the later family's looks); each row that meets fmt, with fmt's text TOLD by the authors' own Lean function (tested against real Go, not proved from fmt's source: count such statements apart). THE CARD IS WHAT COUNTS. Prove the row's statement (the work); the ties are given (YtkbhjejalkbogaaDoorTie.lean); close each card by the builder's one call (the guide's Derived/Test/ToyasCard.lean, 'card_holds'). Laid BY PROGRAM, IN A SANDBOX (cutbox-door.mjs). By AI agents, Wed Nov 11 2026. No macro, syntax, notation, axiom, sorry.
-/
import Derived.Test.YtkbhjejalkbogaaDoorRows
import GoSem.ClaimSeven
namespace Go.Proofs.YtkbhjejalkbogaaDoor
namespace Rows

/-- THE TIED CARD OF 'laws.FnExactPagesWrite'. -/
def fnExactPagesWriteCard : Claim7 := { stood := { row := fnExactPagesWriteRow, standIns := [], harness := (true, "765118775374b5d86f246ed521a988cccfc60329b66d889b5f4e5d9095bb6781"), looks := false }, kinds := [], alts := [], laidByText := true, laidKinds := [.data, .data, .data], laidTests := true, laidLooks := .later }
def FnExactPagesWriteCardSaid : Prop := Claim7.holds Tryd.pinned (.plain (OpenSpec.ofChange fnExactPagesWriteSpec)) fnExactPagesWriteCard

/-- THE SECOND FORM's CARD OF 'laws.FnExactPagesWrite'. -/
def fnExactPagesWriteUptoCard : Claim7 := { stood := { row := fnExactPagesWriteUptoRow, standIns := [], harness := (true, "765118775374b5d86f246ed521a988cccfc60329b66d889b5f4e5d9095bb6781"), looks := false }, kinds := [], alts := [], laidByText := true, laidKinds := [.data, .data, .data], laidTests := true, laidLooks := .later }
def FnExactPagesWriteUptoCardSaid : Prop := Claim7.holds Tryd.pinned (.plain (OpenSpec.upto fnExactPagesWriteSpec)) fnExactPagesWriteUptoCard
end Rows
end Go.Proofs.YtkbhjejalkbogaaDoor
