/-
  DERIVED. GIVEN WITH THE SEED: THE CARDS: each row of YtmknpehjncpekaaGreatDoorRows.lean that lists a variable, with what it lists TIED to the program's text (the seventh form; the later family's looks); each row that meets fmt, with fmt's text TOLD by the authors' own Lean function (tested against real Go, not proved from fmt's source: count such statements apart). THE CARD IS WHAT COUNTS. Prove the row's statement (the work); the ties are given (YtmknpehjncpekaaGreatDoorTie.lean); close each card by the builder's one call (the guide's Derived/Test/ToyasCard.lean, 'card_holds'). Laid BY PROGRAM, IN A SANDBOX (cutbox-door.mjs). By AI agents, Wed Nov 11 2026. No macro, syntax, notation, axiom, sorry.
-/
import Derived.Test.YtmknpehjncpekaaGreatDoorRows
import GoSem.ClaimSeven
namespace Go.Proofs.YtmknpehjncpekaaGreatDoor
namespace Rows

/-- THE TIED CARD OF 'witlaw2.MirrorPlays'. -/
def mirrorPlaysCard : Claim7 := { stood := { row := mirrorPlaysRow, standIns := [], harness := (true, "6638317bbbd226a11767df009ef05b4063e266d13efba34883e54ead02ca37df"), looks := true }, kinds := [], alts := [], laidByText := true, laidKinds := [.data, .data, .data, .handle], laidTests := true, laidLooks := .later }
def MirrorPlaysCardSaid : Prop := Claim7.holds Tryz.pinned (.plain (OpenSpec.ofChange mirrorPlaysSpec)) mirrorPlaysCard

/-- THE SECOND FORM's CARD OF 'witlaw2.MirrorPlays'. -/
def mirrorPlaysUptoCard : Claim7 := { stood := { row := mirrorPlaysUptoRow, standIns := [], harness := (true, "6638317bbbd226a11767df009ef05b4063e266d13efba34883e54ead02ca37df"), looks := true }, kinds := [], alts := [], laidByText := true, laidKinds := [.data, .data, .data, .handle], laidTests := true, laidLooks := .later }
def MirrorPlaysUptoCardSaid : Prop := Claim7.holds Tryz.pinned (.plain (OpenSpec.upto mirrorPlaysSpec)) mirrorPlaysUptoCard
end Rows
end Go.Proofs.YtmknpehjncpekaaGreatDoor
