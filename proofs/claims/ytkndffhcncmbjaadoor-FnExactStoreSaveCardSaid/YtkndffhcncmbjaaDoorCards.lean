/-
  DERIVED. GIVEN WITH THE SEED: THE CARDS: each row of YtkndffhcncmbjaaDoorRows.lean that lists a variable, with what it lists TIED to the program's text (the seventh form; the later family's looks); each row that meets fmt, with fmt's text TOLD by the authors' own Lean function (tested against real Go, not proved from fmt's source: count such statements apart). THE CARD IS WHAT COUNTS. Prove the row's statement (the work); the ties are given (YtkndffhcncmbjaaDoorTie.lean); close each card by the builder's one call (the guide's Derived/Test/ToyasCard.lean, 'card_holds'). Laid BY PROGRAM, IN A SANDBOX (cutbox-door.mjs). By AI agents, Wed Nov 11 2026. No macro, syntax, notation, axiom, sorry.
-/
import Derived.Test.YtkndffhcncmbjaaDoorRows
import GoSem.ClaimSeven
namespace Go.Proofs.YtkndffhcncmbjaaDoor
namespace Rows

/-- THE TIED CARD OF 'laws.FnExactStoreNew'. -/
def fnExactStoreNewCard : Claim7 := { stood := { row := fnExactStoreNewRow, standIns := [], harness := (true, "ce3683d55da6258caadab03feae6378e369979a4cdc02dba53ad676e561c3181"), looks := false }, kinds := [], alts := [], laidByText := true, laidKinds := [.data, .data, .data], laidTests := true, laidLooks := .later }
def FnExactStoreNewCardSaid : Prop := Claim7.holds Tryd.pinned (.plain (OpenSpec.ofChange fnExactStoreNewSpec)) fnExactStoreNewCard

/-- THE TIED CARD OF 'laws.FnExactStoreAppend'. -/
def fnExactStoreAppendCard : Claim7 := { stood := { row := fnExactStoreAppendRow, standIns := [], harness := (true, "ce3683d55da6258caadab03feae6378e369979a4cdc02dba53ad676e561c3181"), looks := false }, kinds := [], alts := [], laidByText := true, laidKinds := [.data, .data, .data], laidTests := true, laidLooks := .later }
def FnExactStoreAppendCardSaid : Prop := Claim7.holds Tryd.pinned (.plain (OpenSpec.ofChange fnExactStoreAppendSpec)) fnExactStoreAppendCard

/-- THE TIED CARD OF 'laws.FnExactStoreSave'. -/
def fnExactStoreSaveCard : Claim7 := { stood := { row := fnExactStoreSaveRow, standIns := [], harness := (true, "ce3683d55da6258caadab03feae6378e369979a4cdc02dba53ad676e561c3181"), looks := false }, kinds := [], alts := [], laidByText := true, laidKinds := [.data, .data, .data], laidTests := true, laidLooks := .later }
def FnExactStoreSaveCardSaid : Prop := Claim7.holds Tryd.pinned (.plain (OpenSpec.ofChange fnExactStoreSaveSpec)) fnExactStoreSaveCard

/-- THE TIED CARD OF 'laws.FnExactPagesWrite'. -/
def fnExactPagesWriteCard : Claim7 := { stood := { row := fnExactPagesWriteRow, standIns := [], harness := (true, "ce3683d55da6258caadab03feae6378e369979a4cdc02dba53ad676e561c3181"), looks := false }, kinds := [], alts := [], laidByText := true, laidKinds := [.data, .data, .data], laidTests := true, laidLooks := .later }
def FnExactPagesWriteCardSaid : Prop := Claim7.holds Tryd.pinned (.plain (OpenSpec.ofChange fnExactPagesWriteSpec)) fnExactPagesWriteCard

/-- THE TIED CARD OF 'laws.FnStoreFull'. -/
def fnStoreFullCard : Claim7 := { stood := { row := fnStoreFullRow, standIns := [], harness := (true, "ce3683d55da6258caadab03feae6378e369979a4cdc02dba53ad676e561c3181"), looks := false }, kinds := [], alts := [], laidByText := true, laidKinds := [.data, .data, .data], laidTests := true, laidLooks := .later }
def FnStoreFullCardSaid : Prop := Claim7.holds Tryd.pinned (.plain (OpenSpec.ofChange fnStoreFullSpec)) fnStoreFullCard

/-- THE TIED CARD OF 'laws.FnStoreRoom'. -/
def fnStoreRoomCard : Claim7 := { stood := { row := fnStoreRoomRow, standIns := [], harness := (true, "ce3683d55da6258caadab03feae6378e369979a4cdc02dba53ad676e561c3181"), looks := false }, kinds := [], alts := [], laidByText := true, laidKinds := [.data, .data, .data], laidTests := true, laidLooks := .later }
def FnStoreRoomCardSaid : Prop := Claim7.holds Tryd.pinned (.plain (OpenSpec.ofChange fnStoreRoomSpec)) fnStoreRoomCard

/-- THE SECOND FORM's CARD OF 'laws.FnExactStoreNew'. -/
def fnExactStoreNewUptoCard : Claim7 := { stood := { row := fnExactStoreNewUptoRow, standIns := [], harness := (true, "ce3683d55da6258caadab03feae6378e369979a4cdc02dba53ad676e561c3181"), looks := false }, kinds := [], alts := [], laidByText := true, laidKinds := [.data, .data, .data], laidTests := true, laidLooks := .later }
def FnExactStoreNewUptoCardSaid : Prop := Claim7.holds Tryd.pinned (.plain (OpenSpec.upto fnExactStoreNewSpec)) fnExactStoreNewUptoCard

/-- THE SECOND FORM's CARD OF 'laws.FnExactStoreAppend'. -/
def fnExactStoreAppendUptoCard : Claim7 := { stood := { row := fnExactStoreAppendUptoRow, standIns := [], harness := (true, "ce3683d55da6258caadab03feae6378e369979a4cdc02dba53ad676e561c3181"), looks := false }, kinds := [], alts := [], laidByText := true, laidKinds := [.data, .data, .data], laidTests := true, laidLooks := .later }
def FnExactStoreAppendUptoCardSaid : Prop := Claim7.holds Tryd.pinned (.plain (OpenSpec.upto fnExactStoreAppendSpec)) fnExactStoreAppendUptoCard

/-- THE SECOND FORM's CARD OF 'laws.FnExactStoreSave'. -/
def fnExactStoreSaveUptoCard : Claim7 := { stood := { row := fnExactStoreSaveUptoRow, standIns := [], harness := (true, "ce3683d55da6258caadab03feae6378e369979a4cdc02dba53ad676e561c3181"), looks := false }, kinds := [], alts := [], laidByText := true, laidKinds := [.data, .data, .data], laidTests := true, laidLooks := .later }
def FnExactStoreSaveUptoCardSaid : Prop := Claim7.holds Tryd.pinned (.plain (OpenSpec.upto fnExactStoreSaveSpec)) fnExactStoreSaveUptoCard

/-- THE SECOND FORM's CARD OF 'laws.FnExactPagesWrite'. -/
def fnExactPagesWriteUptoCard : Claim7 := { stood := { row := fnExactPagesWriteUptoRow, standIns := [], harness := (true, "ce3683d55da6258caadab03feae6378e369979a4cdc02dba53ad676e561c3181"), looks := false }, kinds := [], alts := [], laidByText := true, laidKinds := [.data, .data, .data], laidTests := true, laidLooks := .later }
def FnExactPagesWriteUptoCardSaid : Prop := Claim7.holds Tryd.pinned (.plain (OpenSpec.upto fnExactPagesWriteSpec)) fnExactPagesWriteUptoCard

/-- THE SECOND FORM's CARD OF 'laws.FnStoreFull'. -/
def fnStoreFullUptoCard : Claim7 := { stood := { row := fnStoreFullUptoRow, standIns := [], harness := (true, "ce3683d55da6258caadab03feae6378e369979a4cdc02dba53ad676e561c3181"), looks := false }, kinds := [], alts := [], laidByText := true, laidKinds := [.data, .data, .data], laidTests := true, laidLooks := .later }
def FnStoreFullUptoCardSaid : Prop := Claim7.holds Tryd.pinned (.plain (OpenSpec.upto fnStoreFullSpec)) fnStoreFullUptoCard

/-- THE SECOND FORM's CARD OF 'laws.FnStoreRoom'. -/
def fnStoreRoomUptoCard : Claim7 := { stood := { row := fnStoreRoomUptoRow, standIns := [], harness := (true, "ce3683d55da6258caadab03feae6378e369979a4cdc02dba53ad676e561c3181"), looks := false }, kinds := [], alts := [], laidByText := true, laidKinds := [.data, .data, .data], laidTests := true, laidLooks := .later }
def FnStoreRoomUptoCardSaid : Prop := Claim7.holds Tryd.pinned (.plain (OpenSpec.upto fnStoreRoomSpec)) fnStoreRoomUptoCard
end Rows
end Go.Proofs.YtkndffhcncmbjaaDoor
