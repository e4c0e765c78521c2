/-
  DERIVED. GIVEN WITH THE SEED: THE CARDS: each row of YtcgfdhgceokcnaaGreatDoorRows.lean that lists a variable, with what it lists TIED to the program's text (the seventh form; the later family's looks); each row that meets fmt, with fmt's text TOLD by the authors' own Lean function (tested against real Go, not proved from fmt's source: count such statements apart). THE CARD IS WHAT COUNTS. Prove the row's statement (the work); the ties are given (YtcgfdhgceokcnaaGreatDoorTie.lean); close each card by the builder's one call (the guide's Derived/Test/ToyasCard.lean, 'card_holds'). Laid BY PROGRAM, IN A SANDBOX (cutbox-door.mjs). By AI agents, Wed Nov 11 2026. No macro, syntax, notation, axiom, sorry.
-/
import Derived.Test.YtcgfdhgceokcnaaGreatDoorRows
import GoSem.ClaimSeven
namespace Go.Proofs.YtcgfdhgceokcnaaGreatDoor
namespace Rows

/-- THE TIED CARD OF 'witlaw2.WalKeeps'. -/
def walKeepsCard : Claim7 := { stood := { row := walKeepsRow, standIns := [], harness := (true, "6ce97bfe042af1eac28c1e82f7d67298e11e0c6569fb6ecb327a8e2f6509c72b"), looks := true }, kinds := [], alts := [], laidByText := true, laidKinds := [.data, .data, .data, .handle, .sentinel, .sentinel], laidTests := true, laidLooks := .later }
def WalKeepsCardSaid : Prop := Claim7.holds Tryz.pinned (.plain (OpenSpec.ofChange walKeepsSpec)) walKeepsCard

/-- THE TIED CARD OF 'witlaw2.WalStops'. -/
def walStopsCard : Claim7 := { stood := { row := walStopsRow, standIns := [], harness := (true, "6ce97bfe042af1eac28c1e82f7d67298e11e0c6569fb6ecb327a8e2f6509c72b"), looks := true }, kinds := [], alts := [], laidByText := true, laidKinds := [.data, .data, .data, .handle, .sentinel, .sentinel], laidTests := true, laidLooks := .later }
def WalStopsCardSaid : Prop := Claim7.holds Tryz.pinned (.plain (OpenSpec.ofChange walStopsSpec)) walStopsCard

/-- THE TIED CARD OF 'wittop.TopKept'. -/
def topKeptCard : Claim7 := { stood := { row := topKeptRow, standIns := [], harness := (true, "6ce97bfe042af1eac28c1e82f7d67298e11e0c6569fb6ecb327a8e2f6509c72b"), looks := true }, kinds := [], alts := [], laidByText := true, laidKinds := [.data, .data, .data, .sentinel, .sentinel], laidTests := true, laidLooks := .later }
def TopKeptCardSaid : Prop := Claim7.holds Tryz.pinned (.plain (OpenSpec.ofChange topKeptSpec)) topKeptCard

/-- THE SECOND FORM's CARD OF 'witlaw2.WalKeeps'. -/
def walKeepsUptoCard : Claim7 := { stood := { row := walKeepsUptoRow, standIns := [], harness := (true, "6ce97bfe042af1eac28c1e82f7d67298e11e0c6569fb6ecb327a8e2f6509c72b"), looks := true }, kinds := [], alts := [], laidByText := true, laidKinds := [.data, .data, .data, .handle, .sentinel, .sentinel], laidTests := true, laidLooks := .later }
def WalKeepsUptoCardSaid : Prop := Claim7.holds Tryz.pinned (.plain (OpenSpec.upto walKeepsSpec)) walKeepsUptoCard

/-- THE SECOND FORM's CARD OF 'witlaw2.WalStops'. -/
def walStopsUptoCard : Claim7 := { stood := { row := walStopsUptoRow, standIns := [], harness := (true, "6ce97bfe042af1eac28c1e82f7d67298e11e0c6569fb6ecb327a8e2f6509c72b"), looks := true }, kinds := [], alts := [], laidByText := true, laidKinds := [.data, .data, .data, .handle, .sentinel, .sentinel], laidTests := true, laidLooks := .later }
def WalStopsUptoCardSaid : Prop := Claim7.holds Tryz.pinned (.plain (OpenSpec.upto walStopsSpec)) walStopsUptoCard

/-- THE SECOND FORM's CARD OF 'wittop.TopKept'. -/
def topKeptUptoCard : Claim7 := { stood := { row := topKeptUptoRow, standIns := [], harness := (true, "6ce97bfe042af1eac28c1e82f7d67298e11e0c6569fb6ecb327a8e2f6509c72b"), looks := true }, kinds := [], alts := [], laidByText := true, laidKinds := [.data, .data, .data, .sentinel, .sentinel], laidTests := true, laidLooks := .later }
def TopKeptUptoCardSaid : Prop := Claim7.holds Tryz.pinned (.plain (OpenSpec.upto topKeptSpec)) topKeptUptoCard
end Rows
end Go.Proofs.YtcgfdhgceokcnaaGreatDoor
