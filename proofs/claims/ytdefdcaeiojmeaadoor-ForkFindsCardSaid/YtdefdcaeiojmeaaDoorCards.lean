/-
  DERIVED. GIVEN WITH THE SEED: THE CARDS: each row of YtdefdcaeiojmeaaDoorRows.lean that lists a variable, with what it lists TIED to the program's text (the seventh form; the later family's looks); each row that meets fmt, with fmt's text TOLD by the authors' own Lean function (tested against real Go, not proved from fmt's source: count such statements apart). THE CARD IS WHAT COUNTS. Prove the row's statement (the work); the ties are given (YtdefdcaeiojmeaaDoorTie.lean); close each card by the builder's one call (the guide's Derived/Test/ToyasCard.lean, 'card_holds'). Laid BY PROGRAM, IN A SANDBOX (cutbox-door.mjs). By AI agents, Wed Nov 11 2026. No macro, syntax, notation, axiom, sorry.
-/
import Derived.Test.YtdefdcaeiojmeaaDoorRows
import GoSem.ClaimSeven
namespace Go.Proofs.YtdefdcaeiojmeaaDoor
namespace Rows

/-- THE TIED CARD OF 'witlaw2.MirrorTrusts'. -/
def mirrorTrustsCard : Claim7 := { stood := { row := mirrorTrustsRow, standIns := [], harness := (true, "376b6b0e30206ccda45c3b741d3b424bec3115497b129429e7aad86eb0ebf160"), looks := true }, kinds := [], alts := [], laidByText := true, laidKinds := [.data, .data, .data], laidTests := true, laidLooks := .later }
def MirrorTrustsCardSaid : Prop := Claim7.holds Tryd.pinned (.plain (OpenSpec.ofChange mirrorTrustsSpec)) mirrorTrustsCard

/-- THE TIED CARD OF 'witlaw3.ForkFinds'. -/
def forkFindsCard : Claim7 := { stood := { row := forkFindsRow, standIns := [], harness := (true, "376b6b0e30206ccda45c3b741d3b424bec3115497b129429e7aad86eb0ebf160"), looks := true }, kinds := [], alts := [], laidByText := true, laidKinds := [.data, .data, .data, .handle], laidTests := true, laidLooks := .later }
def ForkFindsCardSaid : Prop := Claim7.holds Tryd.pinned (.plain (OpenSpec.ofChange forkFindsSpec)) forkFindsCard

/-- THE SECOND FORM's CARD OF 'witlaw2.MirrorTrusts'. -/
def mirrorTrustsUptoCard : Claim7 := { stood := { row := mirrorTrustsUptoRow, standIns := [], harness := (true, "376b6b0e30206ccda45c3b741d3b424bec3115497b129429e7aad86eb0ebf160"), looks := true }, kinds := [], alts := [], laidByText := true, laidKinds := [.data, .data, .data], laidTests := true, laidLooks := .later }
def MirrorTrustsUptoCardSaid : Prop := Claim7.holds Tryd.pinned (.plain (OpenSpec.upto mirrorTrustsSpec)) mirrorTrustsUptoCard

/-- THE SECOND FORM's CARD OF 'witlaw3.ForkFinds'. -/
def forkFindsUptoCard : Claim7 := { stood := { row := forkFindsUptoRow, standIns := [], harness := (true, "376b6b0e30206ccda45c3b741d3b424bec3115497b129429e7aad86eb0ebf160"), looks := true }, kinds := [], alts := [], laidByText := true, laidKinds := [.data, .data, .data, .handle], laidTests := true, laidLooks := .later }
def ForkFindsUptoCardSaid : Prop := Claim7.holds Tryd.pinned (.plain (OpenSpec.upto forkFindsSpec)) forkFindsUptoCard
end Rows
end Go.Proofs.YtdefdcaeiojmeaaDoor
