/-
  DERIVED. GIVEN WITH THE SEED: THE CARDS: each row of YtlbpnfhhoalenaaDoorRows.lean that lists a variable, with what it lists TIED to the program's text (the seventh form; the later family's looks); each row that meets fmt, with fmt's text TOLD by the authors' own Lean function (tested against real Go, not proved from fmt's source: count such statements apart). THE CARD IS WHAT COUNTS. Prove the row's statement (the work); the ties are given (YtlbpnfhhoalenaaDoorTie.lean); close each card by the builder's one call (the guide's Derived/Test/ToyasCard.lean, 'card_holds'). Laid BY PROGRAM, IN A SANDBOX (cutbox-door.mjs). By AI agents, Wed Nov 11 2026. No macro, syntax, notation, axiom, sorry.
-/
import Derived.Test.YtlbpnfhhoalenaaDoorRows
import GoSem.ClaimSeven
namespace Go.Proofs.YtlbpnfhhoalenaaDoor
namespace Rows

/-- THE TIED CARD OF 'laws.FnExactTreeShow'. -/
def fnExactTreeShowCard : Claim7 := { stood := { row := fnExactTreeShowRow, standIns := [], harness := (true, "2dc6f0fa5595edc2491c4221c017d3846401702a22fd5fbb65ca198d9e99bf2b"), looks := true }, kinds := [], alts := [], laidByText := true, laidKinds := [.data, .data, .data], laidTests := true, laidLooks := .later }
def FnExactTreeShowCardSaid : Prop := Claim7.holds Tryd.pinned (.plain (OpenSpec.ofChange fnExactTreeShowSpec)) fnExactTreeShowCard

/-- THE TIED CARD OF 'laws.FnExactLayerWrite'. -/
def fnExactLayerWriteCard : Claim7 := { stood := { row := fnExactLayerWriteRow, standIns := [], harness := (true, "2dc6f0fa5595edc2491c4221c017d3846401702a22fd5fbb65ca198d9e99bf2b"), looks := true }, kinds := [], alts := [], laidByText := true, laidKinds := [.data, .data, .data], laidTests := true, laidLooks := .later }
def FnExactLayerWriteCardSaid : Prop := Claim7.holds Tryd.pinned (.plain (OpenSpec.ofChange fnExactLayerWriteSpec)) fnExactLayerWriteCard

/-- THE TIED CARD OF 'laws.FnExactTableId'. -/
def fnExactTableIdCard : Claim7 := { stood := { row := fnExactTableIdRow, standIns := [], harness := (true, "2dc6f0fa5595edc2491c4221c017d3846401702a22fd5fbb65ca198d9e99bf2b"), looks := true }, kinds := [], alts := [], laidByText := true, laidKinds := [.data, .data, .data], laidTests := true, laidLooks := .later }
def FnExactTableIdCardSaid : Prop := Claim7.holds Tryd.pinned (.plain (OpenSpec.ofChange fnExactTableIdSpec)) fnExactTableIdCard

/-- THE TIED CARD OF 'laws.FnExactTrailRead'. -/
def fnExactTrailReadCard : Claim7 := { stood := { row := fnExactTrailReadRow, standIns := [], harness := (true, "2dc6f0fa5595edc2491c4221c017d3846401702a22fd5fbb65ca198d9e99bf2b"), looks := true }, kinds := [], alts := [], laidByText := true, laidKinds := [.data, .pinned], laidTests := true, laidLooks := .later }
def FnExactTrailReadCardSaid : Prop := Claim7.holds Tryd.pinned (.plain (OpenSpec.ofChange fnExactTrailReadSpec)) fnExactTrailReadCard

/-- THE TIED CARD OF 'laws.FnExactTableMake'. -/
def fnExactTableMakeCard : Claim7 := { stood := { row := fnExactTableMakeRow, standIns := [], harness := (true, "2dc6f0fa5595edc2491c4221c017d3846401702a22fd5fbb65ca198d9e99bf2b"), looks := true }, kinds := [], alts := [], laidByText := true, laidKinds := [.data, .data, .data], laidTests := true, laidLooks := .later }
def FnExactTableMakeCardSaid : Prop := Claim7.holds Tryd.pinned (.plain (OpenSpec.ofChange fnExactTableMakeSpec)) fnExactTableMakeCard

/-- THE TIED CARD OF 'laws.FnExactLayerRead'. -/
def fnExactLayerReadCard : Claim7 := { stood := { row := fnExactLayerReadRow, standIns := [], harness := (true, "2dc6f0fa5595edc2491c4221c017d3846401702a22fd5fbb65ca198d9e99bf2b"), looks := true }, kinds := [], alts := [], laidByText := true, laidKinds := [.data, .data, .data, .data, .sentinel, .sentinel, .pinned], laidTests := true, laidLooks := .later }
def FnExactLayerReadCardSaid : Prop := Claim7.holds Tryd.pinned (.plain (OpenSpec.ofChange fnExactLayerReadSpec)) fnExactLayerReadCard

/-- THE SECOND FORM's CARD OF 'laws.FnExactTreeShow'. -/
def fnExactTreeShowUptoCard : Claim7 := { stood := { row := fnExactTreeShowUptoRow, standIns := [], harness := (true, "2dc6f0fa5595edc2491c4221c017d3846401702a22fd5fbb65ca198d9e99bf2b"), looks := true }, kinds := [], alts := [], laidByText := true, laidKinds := [.data, .data, .data], laidTests := true, laidLooks := .later }
def FnExactTreeShowUptoCardSaid : Prop := Claim7.holds Tryd.pinned (.plain (OpenSpec.upto fnExactTreeShowSpec)) fnExactTreeShowUptoCard

/-- THE SECOND FORM's CARD OF 'laws.FnExactLayerWrite'. -/
def fnExactLayerWriteUptoCard : Claim7 := { stood := { row := fnExactLayerWriteUptoRow, standIns := [], harness := (true, "2dc6f0fa5595edc2491c4221c017d3846401702a22fd5fbb65ca198d9e99bf2b"), looks := true }, kinds := [], alts := [], laidByText := true, laidKinds := [.data, .data, .data], laidTests := true, laidLooks := .later }
def FnExactLayerWriteUptoCardSaid : Prop := Claim7.holds Tryd.pinned (.plain (OpenSpec.upto fnExactLayerWriteSpec)) fnExactLayerWriteUptoCard

/-- THE SECOND FORM's CARD OF 'laws.FnExactTableId'. -/
def fnExactTableIdUptoCard : Claim7 := { stood := { row := fnExactTableIdUptoRow, standIns := [], harness := (true, "2dc6f0fa5595edc2491c4221c017d3846401702a22fd5fbb65ca198d9e99bf2b"), looks := true }, kinds := [], alts := [], laidByText := true, laidKinds := [.data, .data, .data], laidTests := true, laidLooks := .later }
def FnExactTableIdUptoCardSaid : Prop := Claim7.holds Tryd.pinned (.plain (OpenSpec.upto fnExactTableIdSpec)) fnExactTableIdUptoCard

/-- THE SECOND FORM's CARD OF 'laws.FnExactTrailRead'. -/
def fnExactTrailReadUptoCard : Claim7 := { stood := { row := fnExactTrailReadUptoRow, standIns := [], harness := (true, "2dc6f0fa5595edc2491c4221c017d3846401702a22fd5fbb65ca198d9e99bf2b"), looks := true }, kinds := [], alts := [], laidByText := true, laidKinds := [.data, .pinned], laidTests := true, laidLooks := .later }
def FnExactTrailReadUptoCardSaid : Prop := Claim7.holds Tryd.pinned (.plain (OpenSpec.upto fnExactTrailReadSpec)) fnExactTrailReadUptoCard

/-- THE SECOND FORM's CARD OF 'laws.FnExactTableMake'. -/
def fnExactTableMakeUptoCard : Claim7 := { stood := { row := fnExactTableMakeUptoRow, standIns := [], harness := (true, "2dc6f0fa5595edc2491c4221c017d3846401702a22fd5fbb65ca198d9e99bf2b"), looks := true }, kinds := [], alts := [], laidByText := true, laidKinds := [.data, .data, .data], laidTests := true, laidLooks := .later }
def FnExactTableMakeUptoCardSaid : Prop := Claim7.holds Tryd.pinned (.plain (OpenSpec.upto fnExactTableMakeSpec)) fnExactTableMakeUptoCard

/-- THE SECOND FORM's CARD OF 'laws.FnExactLayerRead'. -/
def fnExactLayerReadUptoCard : Claim7 := { stood := { row := fnExactLayerReadUptoRow, standIns := [], harness := (true, "2dc6f0fa5595edc2491c4221c017d3846401702a22fd5fbb65ca198d9e99bf2b"), looks := true }, kinds := [], alts := [], laidByText := true, laidKinds := [.data, .data, .data, .data, .sentinel, .sentinel, .pinned], laidTests := true, laidLooks := .later }
def FnExactLayerReadUptoCardSaid : Prop := Claim7.holds Tryd.pinned (.plain (OpenSpec.upto fnExactLayerReadSpec)) fnExactLayerReadUptoCard
end Rows
end Go.Proofs.YtlbpnfhhoalenaaDoor
