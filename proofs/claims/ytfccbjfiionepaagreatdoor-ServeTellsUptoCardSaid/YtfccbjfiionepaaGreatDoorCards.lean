/-
  DERIVED. GIVEN WITH THE SEED: THE CARDS: each row of YtfccbjfiionepaaGreatDoorRows.lean that lists a variable, with what it lists TIED to the program's text (the seventh form; the later family's looks); each row that meets fmt, with fmt's text TOLD by the authors' own Lean function (tested against real Go, not proved from fmt's source: count such statements apart). THE CARD IS WHAT COUNTS. Prove the row's statement (the work); the ties are given (YtfccbjfiionepaaGreatDoorTie.lean); close each card by the builder's one call (the guide's Derived/Test/ToyasCard.lean, 'card_holds'). Laid BY PROGRAM, IN A SANDBOX (cutbox-door.mjs). By AI agents, Wed Nov 11 2026. No macro, syntax, notation, axiom, sorry.
-/
import Derived.Test.YtfccbjfiionepaaGreatDoorRows
import GoSem.ClaimSeven
namespace Go.Proofs.YtfccbjfiionepaaGreatDoor
namespace Rows

/-- THE TIED CARD OF 'wittop.TopPieces'. -/
def topPiecesCard : Claim7 := { stood := { row := topPiecesRow, standIns := [], harness := (true, "01fcb5a54c8a899c161407f12c5a1f18722b6e0d1c2fc83aa6a458cdae65d8ac"), looks := true }, kinds := [], alts := [], laidByText := true, laidKinds := [.data, .data, .data, .data, .sentinel, .sentinel, .pinned], laidTests := true, laidLooks := .later }
def TopPiecesCardSaid : Prop := Claim7.holds Tryz.pinned (.plain (OpenSpec.ofChange topPiecesSpec)) topPiecesCard

/-- THE TIED CARD OF 'wittop.TopFollows'. -/
def topFollowsCard : Claim7 := { stood := { row := topFollowsRow, standIns := [], harness := (true, "01fcb5a54c8a899c161407f12c5a1f18722b6e0d1c2fc83aa6a458cdae65d8ac"), looks := true }, kinds := [], alts := [], laidByText := true, laidKinds := [.data, .data, .data, .data, .sentinel, .sentinel, .pinned], laidTests := true, laidLooks := .later }
def TopFollowsCardSaid : Prop := Claim7.holds Tryz.pinned (.plain (OpenSpec.ofChange topFollowsSpec)) topFollowsCard

/-- THE TIED CARD OF 'witlaw2.ServeTells'. -/
def serveTellsCard : Claim7 := { stood := { row := serveTellsRow, standIns := [], harness := (true, "01fcb5a54c8a899c161407f12c5a1f18722b6e0d1c2fc83aa6a458cdae65d8ac"), looks := true }, kinds := [], alts := [], laidByText := true, laidKinds := [.data, .data, .data, .data, .handle, .sentinel, .sentinel, .pinned], laidTests := true, laidLooks := .later }
def ServeTellsCardSaid : Prop := Claim7.holds Tryz.pinned (.plain (OpenSpec.ofChange serveTellsSpec)) serveTellsCard

/-- THE SECOND FORM's CARD OF 'wittop.TopPieces'. -/
def topPiecesUptoCard : Claim7 := { stood := { row := topPiecesUptoRow, standIns := [], harness := (true, "01fcb5a54c8a899c161407f12c5a1f18722b6e0d1c2fc83aa6a458cdae65d8ac"), looks := true }, kinds := [], alts := [], laidByText := true, laidKinds := [.data, .data, .data, .data, .sentinel, .sentinel, .pinned], laidTests := true, laidLooks := .later }
def TopPiecesUptoCardSaid : Prop := Claim7.holds Tryz.pinned (.plain (OpenSpec.upto topPiecesSpec)) topPiecesUptoCard

/-- THE SECOND FORM's CARD OF 'wittop.TopFollows'. -/
def topFollowsUptoCard : Claim7 := { stood := { row := topFollowsUptoRow, standIns := [], harness := (true, "01fcb5a54c8a899c161407f12c5a1f18722b6e0d1c2fc83aa6a458cdae65d8ac"), looks := true }, kinds := [], alts := [], laidByText := true, laidKinds := [.data, .data, .data, .data, .sentinel, .sentinel, .pinned], laidTests := true, laidLooks := .later }
def TopFollowsUptoCardSaid : Prop := Claim7.holds Tryz.pinned (.plain (OpenSpec.upto topFollowsSpec)) topFollowsUptoCard

/-- THE SECOND FORM's CARD OF 'witlaw2.ServeTells'. -/
def serveTellsUptoCard : Claim7 := { stood := { row := serveTellsUptoRow, standIns := [], harness := (true, "01fcb5a54c8a899c161407f12c5a1f18722b6e0d1c2fc83aa6a458cdae65d8ac"), looks := true }, kinds := [], alts := [], laidByText := true, laidKinds := [.data, .data, .data, .data, .handle, .sentinel, .sentinel, .pinned], laidTests := true, laidLooks := .later }
def ServeTellsUptoCardSaid : Prop := Claim7.holds Tryz.pinned (.plain (OpenSpec.upto serveTellsSpec)) serveTellsUptoCard
end Rows
end Go.Proofs.YtfccbjfiionepaaGreatDoor
