/-
  DERIVED. GIVEN WITH THE SEED: THE CARDS: each row of YtkbhjejalkbogaaGreatDoorRows.lean that lists a variable, with what it lists TIED to the program's text (the seventh form; the later family's looks); each row that meets fmt, with fmt's text TOLD by the authors' own Lean function (tested against real Go, not proved from fmt's source: count such statements apart). THE CARD IS WHAT COUNTS. Prove the row's statement (the work); the ties are given (YtkbhjejalkbogaaGreatDoorTie.lean); close each card by the builder's one call (the guide's Derived/Test/ToyasCard.lean, 'card_holds'). Laid BY PROGRAM, IN A SANDBOX (cutbox-door.mjs). By AI agents, Wed Nov 11 2026. No macro, syntax, notation, axiom, sorry.
-/
import Derived.Test.YtkbhjejalkbogaaGreatDoorRows
import GoSem.ClaimSeven
namespace Go.Proofs.YtkbhjejalkbogaaGreatDoor
namespace Rows

/-- THE TIED CARD OF 'laws.FnLayerText'. -/
def fnLayerTextCard : Claim7 := { stood := { row := fnLayerTextRow, standIns := [], harness := (true, "a7ba1ead57763a82367c7e00e4f6906bf323b97c4fe752a3755fcb77d58aebbf"), looks := true }, kinds := [], alts := [], laidByText := true, laidKinds := [.data, .data, .data, .data, .sentinel, .sentinel, .pinned], laidTests := true, laidLooks := .later }
def FnLayerTextCardSaid : Prop := Claim7.holds Tryz.pinned (.plain (OpenSpec.ofChange fnLayerTextSpec)) fnLayerTextCard

/-- THE TIED CARD OF 'laws.FnTrailNone'. -/
def fnTrailNoneCard : Claim7 := { stood := { row := fnTrailNoneRow, standIns := [], harness := (true, "a7ba1ead57763a82367c7e00e4f6906bf323b97c4fe752a3755fcb77d58aebbf"), looks := true }, kinds := [], alts := [], laidByText := true, laidKinds := [.data, .pinned], laidTests := true, laidLooks := .later }
def FnTrailNoneCardSaid : Prop := Claim7.holds Tryz.pinned (.plain (OpenSpec.ofChange fnTrailNoneSpec)) fnTrailNoneCard

/-- THE SECOND FORM's CARD OF 'laws.FnLayerText'. -/
def fnLayerTextUptoCard : Claim7 := { stood := { row := fnLayerTextUptoRow, standIns := [], harness := (true, "a7ba1ead57763a82367c7e00e4f6906bf323b97c4fe752a3755fcb77d58aebbf"), looks := true }, kinds := [], alts := [], laidByText := true, laidKinds := [.data, .data, .data, .data, .sentinel, .sentinel, .pinned], laidTests := true, laidLooks := .later }
def FnLayerTextUptoCardSaid : Prop := Claim7.holds Tryz.pinned (.plain (OpenSpec.upto fnLayerTextSpec)) fnLayerTextUptoCard

/-- THE SECOND FORM's CARD OF 'laws.FnTrailNone'. -/
def fnTrailNoneUptoCard : Claim7 := { stood := { row := fnTrailNoneUptoRow, standIns := [], harness := (true, "a7ba1ead57763a82367c7e00e4f6906bf323b97c4fe752a3755fcb77d58aebbf"), looks := true }, kinds := [], alts := [], laidByText := true, laidKinds := [.data, .pinned], laidTests := true, laidLooks := .later }
def FnTrailNoneUptoCardSaid : Prop := Claim7.holds Tryz.pinned (.plain (OpenSpec.upto fnTrailNoneSpec)) fnTrailNoneUptoCard
end Rows
end Go.Proofs.YtkbhjejalkbogaaGreatDoor
