/-
  DERIVED. GIVEN WITH THE SEED: THE CARDS: each row of YtdefdcaeiojmeaaGreatDoorRows.lean that lists a variable, with what it lists TIED to the program's text (the seventh form; the later family's looks); each row that meets fmt, with fmt's text TOLD by the authors' own Lean function (tested against real Go, not proved from fmt's source: count such statements apart). THE CARD IS WHAT COUNTS. Prove the row's statement (the work); the ties are given (YtdefdcaeiojmeaaGreatDoorTie.lean); close each card by the builder's one call (the guide's Derived/Test/ToyasCard.lean, 'card_holds'). Laid BY PROGRAM, IN A SANDBOX (cutbox-door.mjs). By AI agents, Wed Nov 11 2026. No macro, syntax, notation, axiom, sorry.
-/
import Derived.Test.YtdefdcaeiojmeaaGreatDoorRows
import GoSem.ClaimSeven
namespace Go.Proofs.YtdefdcaeiojmeaaGreatDoor
namespace Rows

/-- THE TIED CARD OF 'wittop.TopPieces'. -/
def topPiecesCard : Claim7 := { stood := { row := topPiecesRow, standIns := [], harness := (true, "5c85f842fb624d4b1acbeae544be89af15ddb15a5b8377d4849bb2556a94deb2"), looks := true }, kinds := [], alts := [], laidByText := true, laidKinds := [.data, .data, .data, .data, .sentinel, .sentinel, .pinned], laidTests := true, laidLooks := .later }
def TopPiecesCardSaid : Prop := Claim7.holds Tryz.pinned (.plain (OpenSpec.ofChange topPiecesSpec)) topPiecesCard

/-- THE TIED CARD OF 'wittop.TopFollows'. -/
def topFollowsCard : Claim7 := { stood := { row := topFollowsRow, standIns := [], harness := (true, "5c85f842fb624d4b1acbeae544be89af15ddb15a5b8377d4849bb2556a94deb2"), looks := true }, kinds := [], alts := [], laidByText := true, laidKinds := [.data, .data, .data, .data, .sentinel, .sentinel, .pinned], laidTests := true, laidLooks := .later }
def TopFollowsCardSaid : Prop := Claim7.holds Tryz.pinned (.plain (OpenSpec.ofChange topFollowsSpec)) topFollowsCard

/-- THE TIED CARD OF 'witlaw2.MirrorPlays'. -/
def mirrorPlaysCard : Claim7 := { stood := { row := mirrorPlaysRow, standIns := [], harness := (true, "5c85f842fb624d4b1acbeae544be89af15ddb15a5b8377d4849bb2556a94deb2"), looks := true }, kinds := [], alts := [], laidByText := true, laidKinds := [.data, .data, .data, .handle], laidTests := true, laidLooks := .later }
def MirrorPlaysCardSaid : Prop := Claim7.holds Tryz.pinned (.plain (OpenSpec.ofChange mirrorPlaysSpec)) mirrorPlaysCard

/-- THE TIED CARD OF 'witlaw2.ServeProves'. -/
def serveProvesCard : Claim7 := { stood := { row := serveProvesRow, standIns := [], harness := (true, "5c85f842fb624d4b1acbeae544be89af15ddb15a5b8377d4849bb2556a94deb2"), looks := true }, kinds := [], alts := [], laidByText := true, laidKinds := [.data, .data, .data, .data, .sentinel, .sentinel, .pinned], laidTests := true, laidLooks := .later }
def ServeProvesCardSaid : Prop := Claim7.holds Tryz.pinned (.plain (OpenSpec.ofChange serveProvesSpec)) serveProvesCard

/-- THE TIED CARD OF 'witlaw2.ServeTells'. -/
def serveTellsCard : Claim7 := { stood := { row := serveTellsRow, standIns := [], harness := (true, "5c85f842fb624d4b1acbeae544be89af15ddb15a5b8377d4849bb2556a94deb2"), looks := true }, kinds := [], alts := [], laidByText := true, laidKinds := [.data, .data, .data, .data, .handle, .sentinel, .sentinel, .pinned], laidTests := true, laidLooks := .later }
def ServeTellsCardSaid : Prop := Claim7.holds Tryz.pinned (.plain (OpenSpec.ofChange serveTellsSpec)) serveTellsCard

/-- THE SECOND FORM's CARD OF 'wittop.TopPieces'. -/
def topPiecesUptoCard : Claim7 := { stood := { row := topPiecesUptoRow, standIns := [], harness := (true, "5c85f842fb624d4b1acbeae544be89af15ddb15a5b8377d4849bb2556a94deb2"), looks := true }, kinds := [], alts := [], laidByText := true, laidKinds := [.data, .data, .data, .data, .sentinel, .sentinel, .pinned], laidTests := true, laidLooks := .later }
def TopPiecesUptoCardSaid : Prop := Claim7.holds Tryz.pinned (.plain (OpenSpec.upto topPiecesSpec)) topPiecesUptoCard

/-- THE SECOND FORM's CARD OF 'wittop.TopFollows'. -/
def topFollowsUptoCard : Claim7 := { stood := { row := topFollowsUptoRow, standIns := [], harness := (true, "5c85f842fb624d4b1acbeae544be89af15ddb15a5b8377d4849bb2556a94deb2"), looks := true }, kinds := [], alts := [], laidByText := true, laidKinds := [.data, .data, .data, .data, .sentinel, .sentinel, .pinned], laidTests := true, laidLooks := .later }
def TopFollowsUptoCardSaid : Prop := Claim7.holds Tryz.pinned (.plain (OpenSpec.upto topFollowsSpec)) topFollowsUptoCard

/-- THE SECOND FORM's CARD OF 'witlaw2.MirrorPlays'. -/
def mirrorPlaysUptoCard : Claim7 := { stood := { row := mirrorPlaysUptoRow, standIns := [], harness := (true, "5c85f842fb624d4b1acbeae544be89af15ddb15a5b8377d4849bb2556a94deb2"), looks := true }, kinds := [], alts := [], laidByText := true, laidKinds := [.data, .data, .data, .handle], laidTests := true, laidLooks := .later }
def MirrorPlaysUptoCardSaid : Prop := Claim7.holds Tryz.pinned (.plain (OpenSpec.upto mirrorPlaysSpec)) mirrorPlaysUptoCard

/-- THE SECOND FORM's CARD OF 'witlaw2.ServeProves'. -/
def serveProvesUptoCard : Claim7 := { stood := { row := serveProvesUptoRow, standIns := [], harness := (true, "5c85f842fb624d4b1acbeae544be89af15ddb15a5b8377d4849bb2556a94deb2"), looks := true }, kinds := [], alts := [], laidByText := true, laidKinds := [.data, .data, .data, .data, .sentinel, .sentinel, .pinned], laidTests := true, laidLooks := .later }
def ServeProvesUptoCardSaid : Prop := Claim7.holds Tryz.pinned (.plain (OpenSpec.upto serveProvesSpec)) serveProvesUptoCard

/-- THE SECOND FORM's CARD OF 'witlaw2.ServeTells'. -/
def serveTellsUptoCard : Claim7 := { stood := { row := serveTellsUptoRow, standIns := [], harness := (true, "5c85f842fb624d4b1acbeae544be89af15ddb15a5b8377d4849bb2556a94deb2"), looks := true }, kinds := [], alts := [], laidByText := true, laidKinds := [.data, .data, .data, .data, .handle, .sentinel, .sentinel, .pinned], laidTests := true, laidLooks := .later }
def ServeTellsUptoCardSaid : Prop := Claim7.holds Tryz.pinned (.plain (OpenSpec.upto serveTellsSpec)) serveTellsUptoCard
end Rows
end Go.Proofs.YtdefdcaeiojmeaaGreatDoor
