/-
  DERIVED. GIVEN WITH THE SEED: THE CARDS: each row of YtelcabjhbgkfmaaGreatDoorRows.lean that lists a variable, with what it lists TIED to the program's text (the seventh form; the later family's looks); each row that meets fmt, with fmt's text TOLD by the authors' own Lean function (tested against real Go, not proved from fmt's source: count such statements apart). THE CARD IS WHAT COUNTS. Prove the row's statement (the work); the ties are given (YtelcabjhbgkfmaaGreatDoorTie.lean); close each card by the builder's one call (the guide's Derived/Test/ToyasCard.lean, 'card_holds'). Laid BY PROGRAM, IN A SANDBOX (cutbox-door.mjs). By AI agents, Wed Nov 11 2026. No macro, syntax, notation, axiom, sorry.
-/
import Derived.Test.YtelcabjhbgkfmaaGreatDoorRows
import GoSem.ClaimSeven
namespace Go.Proofs.YtelcabjhbgkfmaaGreatDoor
namespace Rows

/-- THE TIED CARD OF 'witlaw1.HeadTells'. -/
def headTellsCard : Claim7 := { stood := { row := headTellsRow, standIns := [], harness := (true, "e51048e7395f37ccb9dde1ecc6a3a4d8fb80238a0f9c9a0c036e715893307e35"), looks := true }, kinds := [], alts := [], laidByText := true, laidKinds := [.data, .data, .data, .data, .handle, .sentinel, .sentinel, .pinned], laidTests := true, laidLooks := .later }
def HeadTellsCardSaid : Prop := Claim7.holds Tryz.pinned (.plain (OpenSpec.ofChange headTellsSpec)) headTellsCard

/-- THE TIED CARD OF 'witlaw3.AuditTells'. -/
def auditTellsCard : Claim7 := { stood := { row := auditTellsRow, standIns := [], harness := (true, "e51048e7395f37ccb9dde1ecc6a3a4d8fb80238a0f9c9a0c036e715893307e35"), looks := true }, kinds := [], alts := [], laidByText := true, laidKinds := [.data, .data, .data, .handle], laidTests := true, laidLooks := .later }
def AuditTellsCardSaid : Prop := Claim7.holds Tryz.pinned (.plain (OpenSpec.ofChange auditTellsSpec)) auditTellsCard

/-- THE TIED CARD OF 'witlaw2.ServeProves'. -/
def serveProvesCard : Claim7 := { stood := { row := serveProvesRow, standIns := [], harness := (true, "e51048e7395f37ccb9dde1ecc6a3a4d8fb80238a0f9c9a0c036e715893307e35"), looks := true }, kinds := [], alts := [], laidByText := true, laidKinds := [.data, .data, .data, .data, .sentinel, .sentinel, .pinned], laidTests := true, laidLooks := .later }
def ServeProvesCardSaid : Prop := Claim7.holds Tryz.pinned (.plain (OpenSpec.ofChange serveProvesSpec)) serveProvesCard

/-- THE TIED CARD OF 'witlaw2.ServeTells'. -/
def serveTellsCard : Claim7 := { stood := { row := serveTellsRow, standIns := [], harness := (true, "e51048e7395f37ccb9dde1ecc6a3a4d8fb80238a0f9c9a0c036e715893307e35"), looks := true }, kinds := [], alts := [], laidByText := true, laidKinds := [.data, .data, .data, .data, .handle, .sentinel, .sentinel, .pinned], laidTests := true, laidLooks := .later }
def ServeTellsCardSaid : Prop := Claim7.holds Tryz.pinned (.plain (OpenSpec.ofChange serveTellsSpec)) serveTellsCard

/-- THE TIED CARD OF 'wittop.TopPieces'. -/
def topPiecesCard : Claim7 := { stood := { row := topPiecesRow, standIns := [], harness := (true, "e51048e7395f37ccb9dde1ecc6a3a4d8fb80238a0f9c9a0c036e715893307e35"), looks := true }, kinds := [], alts := [], laidByText := true, laidKinds := [.data, .data, .data, .data, .sentinel, .sentinel, .pinned], laidTests := true, laidLooks := .later }
def TopPiecesCardSaid : Prop := Claim7.holds Tryz.pinned (.plain (OpenSpec.ofChange topPiecesSpec)) topPiecesCard

/-- THE TIED CARD OF 'wittop.TopFollows'. -/
def topFollowsCard : Claim7 := { stood := { row := topFollowsRow, standIns := [], harness := (true, "e51048e7395f37ccb9dde1ecc6a3a4d8fb80238a0f9c9a0c036e715893307e35"), looks := true }, kinds := [], alts := [], laidByText := true, laidKinds := [.data, .data, .data, .data, .sentinel, .sentinel, .pinned], laidTests := true, laidLooks := .later }
def TopFollowsCardSaid : Prop := Claim7.holds Tryz.pinned (.plain (OpenSpec.ofChange topFollowsSpec)) topFollowsCard

/-- THE SECOND FORM's CARD OF 'witlaw1.HeadTells'. -/
def headTellsUptoCard : Claim7 := { stood := { row := headTellsUptoRow, standIns := [], harness := (true, "e51048e7395f37ccb9dde1ecc6a3a4d8fb80238a0f9c9a0c036e715893307e35"), looks := true }, kinds := [], alts := [], laidByText := true, laidKinds := [.data, .data, .data, .data, .handle, .sentinel, .sentinel, .pinned], laidTests := true, laidLooks := .later }
def HeadTellsUptoCardSaid : Prop := Claim7.holds Tryz.pinned (.plain (OpenSpec.upto headTellsSpec)) headTellsUptoCard

/-- THE SECOND FORM's CARD OF 'witlaw3.AuditTells'. -/
def auditTellsUptoCard : Claim7 := { stood := { row := auditTellsUptoRow, standIns := [], harness := (true, "e51048e7395f37ccb9dde1ecc6a3a4d8fb80238a0f9c9a0c036e715893307e35"), looks := true }, kinds := [], alts := [], laidByText := true, laidKinds := [.data, .data, .data, .handle], laidTests := true, laidLooks := .later }
def AuditTellsUptoCardSaid : Prop := Claim7.holds Tryz.pinned (.plain (OpenSpec.upto auditTellsSpec)) auditTellsUptoCard

/-- THE SECOND FORM's CARD OF 'witlaw2.ServeProves'. -/
def serveProvesUptoCard : Claim7 := { stood := { row := serveProvesUptoRow, standIns := [], harness := (true, "e51048e7395f37ccb9dde1ecc6a3a4d8fb80238a0f9c9a0c036e715893307e35"), looks := true }, kinds := [], alts := [], laidByText := true, laidKinds := [.data, .data, .data, .data, .sentinel, .sentinel, .pinned], laidTests := true, laidLooks := .later }
def ServeProvesUptoCardSaid : Prop := Claim7.holds Tryz.pinned (.plain (OpenSpec.upto serveProvesSpec)) serveProvesUptoCard

/-- THE SECOND FORM's CARD OF 'witlaw2.ServeTells'. -/
def serveTellsUptoCard : Claim7 := { stood := { row := serveTellsUptoRow, standIns := [], harness := (true, "e51048e7395f37ccb9dde1ecc6a3a4d8fb80238a0f9c9a0c036e715893307e35"), looks := true }, kinds := [], alts := [], laidByText := true, laidKinds := [.data, .data, .data, .data, .handle, .sentinel, .sentinel, .pinned], laidTests := true, laidLooks := .later }
def ServeTellsUptoCardSaid : Prop := Claim7.holds Tryz.pinned (.plain (OpenSpec.upto serveTellsSpec)) serveTellsUptoCard

/-- THE SECOND FORM's CARD OF 'wittop.TopPieces'. -/
def topPiecesUptoCard : Claim7 := { stood := { row := topPiecesUptoRow, standIns := [], harness := (true, "e51048e7395f37ccb9dde1ecc6a3a4d8fb80238a0f9c9a0c036e715893307e35"), looks := true }, kinds := [], alts := [], laidByText := true, laidKinds := [.data, .data, .data, .data, .sentinel, .sentinel, .pinned], laidTests := true, laidLooks := .later }
def TopPiecesUptoCardSaid : Prop := Claim7.holds Tryz.pinned (.plain (OpenSpec.upto topPiecesSpec)) topPiecesUptoCard

/-- THE SECOND FORM's CARD OF 'wittop.TopFollows'. -/
def topFollowsUptoCard : Claim7 := { stood := { row := topFollowsUptoRow, standIns := [], harness := (true, "e51048e7395f37ccb9dde1ecc6a3a4d8fb80238a0f9c9a0c036e715893307e35"), looks := true }, kinds := [], alts := [], laidByText := true, laidKinds := [.data, .data, .data, .data, .sentinel, .sentinel, .pinned], laidTests := true, laidLooks := .later }
def TopFollowsUptoCardSaid : Prop := Claim7.holds Tryz.pinned (.plain (OpenSpec.upto topFollowsSpec)) topFollowsUptoCard
end Rows
end Go.Proofs.YtelcabjhbgkfmaaGreatDoor
