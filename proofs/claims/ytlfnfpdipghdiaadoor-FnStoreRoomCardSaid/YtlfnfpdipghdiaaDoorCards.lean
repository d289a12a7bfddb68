/-
  DERIVED. GIVEN WITH THE SEED: THE CARDS: each row of YtlfnfpdipghdiaaDoorRows.lean that lists a variable, with what it lists TIED to the program's text (the seventh form; the later family's looks); each row that meets fmt, with fmt's text TOLD by the authors' own Lean function (tested against real Go, not proved from fmt's source: count such statements apart). THE CARD IS WHAT COUNTS. Prove the row's statement (the work); the ties are given (YtlfnfpdipghdiaaDoorTie.lean); close each card by the builder's one call (the guide's Derived/Test/ToyasCard.lean, 'card_holds'). Laid BY PROGRAM, IN A SANDBOX (cutbox-door.mjs). By AI agents, Wed Nov 11 2026. No macro, syntax, notation, axiom, sorry.
-/
import Derived.Test.YtlfnfpdipghdiaaDoorRows
import GoSem.ClaimSeven
namespace Go.Proofs.YtlfnfpdipghdiaaDoor
namespace Rows

/-- THE TIED CARD OF 'laws.FnStoreFull'. -/
def fnStoreFullCard : Claim7 := { stood := { row := fnStoreFullRow, standIns := [], harness := (true, "1f7248b9ce7c05a8bd5e67a625e762953cd18a6591b38a9a210cb394b46fff2a"), looks := false }, kinds := [], alts := [], laidByText := true, laidKinds := [.data, .data, .data], laidTests := true, laidLooks := .later }
def FnStoreFullCardSaid : Prop := Claim7.holds Tryd.pinned (.plain (OpenSpec.ofChange fnStoreFullSpec)) fnStoreFullCard

/-- THE TIED CARD OF 'laws.FnStoreRoom'. -/
def fnStoreRoomCard : Claim7 := { stood := { row := fnStoreRoomRow, standIns := [], harness := (true, "1f7248b9ce7c05a8bd5e67a625e762953cd18a6591b38a9a210cb394b46fff2a"), looks := false }, kinds := [], alts := [], laidByText := true, laidKinds := [.data, .data, .data], laidTests := true, laidLooks := .later }
def FnStoreRoomCardSaid : Prop := Claim7.holds Tryd.pinned (.plain (OpenSpec.ofChange fnStoreRoomSpec)) fnStoreRoomCard

/-- THE SECOND FORM's CARD OF 'laws.FnStoreFull'. -/
def fnStoreFullUptoCard : Claim7 := { stood := { row := fnStoreFullUptoRow, standIns := [], harness := (true, "1f7248b9ce7c05a8bd5e67a625e762953cd18a6591b38a9a210cb394b46fff2a"), looks := false }, kinds := [], alts := [], laidByText := true, laidKinds := [.data, .data, .data], laidTests := true, laidLooks := .later }
def FnStoreFullUptoCardSaid : Prop := Claim7.holds Tryd.pinned (.plain (OpenSpec.upto fnStoreFullSpec)) fnStoreFullUptoCard

/-- THE SECOND FORM's CARD OF 'laws.FnStoreRoom'. -/
def fnStoreRoomUptoCard : Claim7 := { stood := { row := fnStoreRoomUptoRow, standIns := [], harness := (true, "1f7248b9ce7c05a8bd5e67a625e762953cd18a6591b38a9a210cb394b46fff2a"), looks := false }, kinds := [], alts := [], laidByText := true, laidKinds := [.data, .data, .data], laidTests := true, laidLooks := .later }
def FnStoreRoomUptoCardSaid : Prop := Claim7.holds Tryd.pinned (.plain (OpenSpec.upto fnStoreRoomSpec)) fnStoreRoomUptoCard
end Rows
end Go.Proofs.YtlfnfpdipghdiaaDoor
