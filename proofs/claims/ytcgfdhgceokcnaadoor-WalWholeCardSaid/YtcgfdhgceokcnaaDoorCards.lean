/-
  DERIVED. GIVEN WITH THE SEED: THE CARDS: each row of YtcgfdhgceokcnaaDoorRows.lean that lists a variable, with what it lists TIED to the program's text (the seventh form; the later family's looks); each row that meets fmt, with fmt's text TOLD by the authors' own Lean function (tested against real Go, not proved from fmt's source: count such statements apart). THE CARD IS WHAT COUNTS. Prove the row's statement (the work); the ties are given (YtcgfdhgceokcnaaDoorTie.lean); close each card by the builder's one call (the guide's Derived/Test/ToyasCard.lean, 'card_holds'). Laid BY PROGRAM, IN A SANDBOX (cutbox-door.mjs). By AI agents, Wed Nov 11 2026. No macro, syntax, notation, axiom, sorry.
-/
import Derived.Test.YtcgfdhgceokcnaaDoorRows
import GoSem.ClaimSeven
namespace Go.Proofs.YtcgfdhgceokcnaaDoor
namespace Rows

/-- THE TIED CARD OF 'witlaw4.WalWhole'. -/
def walWholeCard : Claim7 := { stood := { row := walWholeRow, standIns := [], harness := (true, "60d1cfcb2c4cce0e97c98d4618255e2f0de9c031c8dd0df67aefa7366e03e89a"), looks := true }, kinds := [], alts := [], laidByText := true, laidKinds := [.data, .data, .data, .handle], laidTests := true, laidLooks := .later }
def WalWholeCardSaid : Prop := Claim7.holds Tryd.pinned (.plain (OpenSpec.ofChange walWholeSpec)) walWholeCard

/-- THE SECOND FORM's CARD OF 'witlaw4.WalWhole'. -/
def walWholeUptoCard : Claim7 := { stood := { row := walWholeUptoRow, standIns := [], harness := (true, "60d1cfcb2c4cce0e97c98d4618255e2f0de9c031c8dd0df67aefa7366e03e89a"), looks := true }, kinds := [], alts := [], laidByText := true, laidKinds := [.data, .data, .data, .handle], laidTests := true, laidLooks := .later }
def WalWholeUptoCardSaid : Prop := Claim7.holds Tryd.pinned (.plain (OpenSpec.upto walWholeSpec)) walWholeUptoCard
end Rows
end Go.Proofs.YtcgfdhgceokcnaaDoor
