/-
  DERIVED. GIVEN WITH THE SEED: THE CARDS: each row of YtmknpehjncpekaaDoorRows.lean that lists a variable, with what it lists TIED to the program's text (the seventh form; the later family's looks); each row that meets fmt, with fmt's text TOLD by the authors' own Lean function (tested against real Go, not proved from fmt's source: count such statements apart). THE CARD IS WHAT COUNTS. Prove the row's statement (the work); the ties are given (YtmknpehjncpekaaDoorTie.lean); close each card by the builder's one call (the guide's Derived/Test/ToyasCard.lean, 'card_holds'). Laid BY PROGRAM, IN A SANDBOX (cutbox-door.mjs). By AI agents, Wed Nov 11 2026. No macro, syntax, notation, axiom, sorry.
-/
import Derived.Test.YtmknpehjncpekaaDoorRows
import GoSem.ClaimSeven
namespace Go.Proofs.YtmknpehjncpekaaDoor
namespace Rows

/-- THE TIED CARD OF 'witlaw3.PrunePlays'. -/
def prunePlaysCard : Claim7 := { stood := { row := prunePlaysRow, standIns := [], harness := (true, "34f1cce946373a419c46b6128855154f240d609d9c26d140ccdeb5a08a6fdbf7"), looks := true }, kinds := [], alts := [], laidByText := true, laidKinds := [.handle], laidTests := true, laidLooks := .later }
def PrunePlaysCardSaid : Prop := Claim7.holds Tryd.pinned (.plain (OpenSpec.ofChange prunePlaysSpec)) prunePlaysCard

/-- THE TIED CARD OF 'witlaw2.MirrorTrusts'. -/
def mirrorTrustsCard : Claim7 := { stood := { row := mirrorTrustsRow, standIns := [], harness := (true, "34f1cce946373a419c46b6128855154f240d609d9c26d140ccdeb5a08a6fdbf7"), looks := true }, kinds := [], alts := [], laidByText := true, laidKinds := [.data, .data, .data], laidTests := true, laidLooks := .later }
def MirrorTrustsCardSaid : Prop := Claim7.holds Tryd.pinned (.plain (OpenSpec.ofChange mirrorTrustsSpec)) mirrorTrustsCard

/-- THE SECOND FORM's CARD OF 'witlaw3.PrunePlays'. -/
def prunePlaysUptoCard : Claim7 := { stood := { row := prunePlaysUptoRow, standIns := [], harness := (true, "34f1cce946373a419c46b6128855154f240d609d9c26d140ccdeb5a08a6fdbf7"), looks := true }, kinds := [], alts := [], laidByText := true, laidKinds := [.handle], laidTests := true, laidLooks := .later }
def PrunePlaysUptoCardSaid : Prop := Claim7.holds Tryd.pinned (.plain (OpenSpec.upto prunePlaysSpec)) prunePlaysUptoCard

/-- THE SECOND FORM's CARD OF 'witlaw2.MirrorTrusts'. -/
def mirrorTrustsUptoCard : Claim7 := { stood := { row := mirrorTrustsUptoRow, standIns := [], harness := (true, "34f1cce946373a419c46b6128855154f240d609d9c26d140ccdeb5a08a6fdbf7"), looks := true }, kinds := [], alts := [], laidByText := true, laidKinds := [.data, .data, .data], laidTests := true, laidLooks := .later }
def MirrorTrustsUptoCardSaid : Prop := Claim7.holds Tryd.pinned (.plain (OpenSpec.upto mirrorTrustsSpec)) mirrorTrustsUptoCard
end Rows
end Go.Proofs.YtmknpehjncpekaaDoor
