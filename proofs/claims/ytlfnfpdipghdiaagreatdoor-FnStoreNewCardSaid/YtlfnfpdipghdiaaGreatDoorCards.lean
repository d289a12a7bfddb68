/-
  DERIVED. GIVEN WITH THE SEED: THE CARDS: each row of YtlfnfpdipghdiaaGreatDoorRows.lean that lists a variable, with what it lists TIED to the program's text (the seventh form; the later family's looks); each row that meets fmt, with fmt's text TOLD by the authors' own Lean function (tested against real Go, not proved from fmt's source: count such statements apart). THE CARD IS WHAT COUNTS. Prove the row's statement (the work); the ties are given (YtlfnfpdipghdiaaGreatDoorTie.lean); close each card by the builder's one call (the guide's Derived/Test/ToyasCard.lean, 'card_holds'). Laid BY PROGRAM, IN A SANDBOX (cutbox-door.mjs). By AI agents, Wed Nov 11 2026. No macro, syntax, notation, axiom, sorry.
-/
import Derived.Test.YtlfnfpdipghdiaaGreatDoorRows
import GoSem.ClaimSeven
namespace Go.Proofs.YtlfnfpdipghdiaaGreatDoor
namespace Rows

/-- THE TIED CARD OF 'laws.FnStoreNew'. -/
def fnStoreNewCard : Claim7 := { stood := { row := fnStoreNewRow, standIns := [], harness := (true, "688e450611f40eb416bb64e97047e4b96384ec6804f935a9b8489b4b55b0f0cc"), looks := true }, kinds := [], alts := [], laidByText := true, laidKinds := [.data, .data, .data, .data, .sentinel, .sentinel, .pinned], laidTests := true, laidLooks := .later }
def FnStoreNewCardSaid : Prop := Claim7.holds Tryz.pinned (.plain (OpenSpec.ofChange fnStoreNewSpec)) fnStoreNewCard

/-- THE TIED CARD OF 'laws.FnStoreOpen'. -/
def fnStoreOpenCard : Claim7 := { stood := { row := fnStoreOpenRow, standIns := [], harness := (true, "688e450611f40eb416bb64e97047e4b96384ec6804f935a9b8489b4b55b0f0cc"), looks := true }, kinds := [], alts := [], laidByText := true, laidKinds := [.data, .data, .data, .data, .sentinel, .sentinel, .pinned], laidTests := true, laidLooks := .later }
def FnStoreOpenCardSaid : Prop := Claim7.holds Tryz.pinned (.plain (OpenSpec.ofChange fnStoreOpenSpec)) fnStoreOpenCard

/-- THE TIED CARD OF 'laws.FnStoreTop'. -/
def fnStoreTopCard : Claim7 := { stood := { row := fnStoreTopRow, standIns := [], harness := (true, "688e450611f40eb416bb64e97047e4b96384ec6804f935a9b8489b4b55b0f0cc"), looks := true }, kinds := [], alts := [], laidByText := true, laidKinds := [.data, .data, .data, .data, .sentinel, .sentinel, .pinned], laidTests := true, laidLooks := .later }
def FnStoreTopCardSaid : Prop := Claim7.holds Tryz.pinned (.plain (OpenSpec.ofChange fnStoreTopSpec)) fnStoreTopCard

/-- THE TIED CARD OF 'laws.FnStorePlay'. -/
def fnStorePlayCard : Claim7 := { stood := { row := fnStorePlayRow, standIns := [], harness := (true, "688e450611f40eb416bb64e97047e4b96384ec6804f935a9b8489b4b55b0f0cc"), looks := true }, kinds := [], alts := [], laidByText := true, laidKinds := [.data, .data, .data, .data, .sentinel, .sentinel, .pinned], laidTests := true, laidLooks := .later }
def FnStorePlayCardSaid : Prop := Claim7.holds Tryz.pinned (.plain (OpenSpec.ofChange fnStorePlaySpec)) fnStorePlayCard

/-- THE SECOND FORM's CARD OF 'laws.FnStoreNew'. -/
def fnStoreNewUptoCard : Claim7 := { stood := { row := fnStoreNewUptoRow, standIns := [], harness := (true, "688e450611f40eb416bb64e97047e4b96384ec6804f935a9b8489b4b55b0f0cc"), looks := true }, kinds := [], alts := [], laidByText := true, laidKinds := [.data, .data, .data, .data, .sentinel, .sentinel, .pinned], laidTests := true, laidLooks := .later }
def FnStoreNewUptoCardSaid : Prop := Claim7.holds Tryz.pinned (.plain (OpenSpec.upto fnStoreNewSpec)) fnStoreNewUptoCard

/-- THE SECOND FORM's CARD OF 'laws.FnStoreOpen'. -/
def fnStoreOpenUptoCard : Claim7 := { stood := { row := fnStoreOpenUptoRow, standIns := [], harness := (true, "688e450611f40eb416bb64e97047e4b96384ec6804f935a9b8489b4b55b0f0cc"), looks := true }, kinds := [], alts := [], laidByText := true, laidKinds := [.data, .data, .data, .data, .sentinel, .sentinel, .pinned], laidTests := true, laidLooks := .later }
def FnStoreOpenUptoCardSaid : Prop := Claim7.holds Tryz.pinned (.plain (OpenSpec.upto fnStoreOpenSpec)) fnStoreOpenUptoCard

/-- THE SECOND FORM's CARD OF 'laws.FnStoreTop'. -/
def fnStoreTopUptoCard : Claim7 := { stood := { row := fnStoreTopUptoRow, standIns := [], harness := (true, "688e450611f40eb416bb64e97047e4b96384ec6804f935a9b8489b4b55b0f0cc"), looks := true }, kinds := [], alts := [], laidByText := true, laidKinds := [.data, .data, .data, .data, .sentinel, .sentinel, .pinned], laidTests := true, laidLooks := .later }
def FnStoreTopUptoCardSaid : Prop := Claim7.holds Tryz.pinned (.plain (OpenSpec.upto fnStoreTopSpec)) fnStoreTopUptoCard

/-- THE SECOND FORM's CARD OF 'laws.FnStorePlay'. -/
def fnStorePlayUptoCard : Claim7 := { stood := { row := fnStorePlayUptoRow, standIns := [], harness := (true, "688e450611f40eb416bb64e97047e4b96384ec6804f935a9b8489b4b55b0f0cc"), looks := true }, kinds := [], alts := [], laidByText := true, laidKinds := [.data, .data, .data, .data, .sentinel, .sentinel, .pinned], laidTests := true, laidLooks := .later }
def FnStorePlayUptoCardSaid : Prop := Claim7.holds Tryz.pinned (.plain (OpenSpec.upto fnStorePlaySpec)) fnStorePlayUptoCard
end Rows
end Go.Proofs.YtlfnfpdipghdiaaGreatDoor
