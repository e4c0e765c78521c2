/-
  DERIVED. GIVEN WITH THE SEED: THE CARDS: each row of YtnafegofmbhahaaDoorRows.lean that lists a variable, with what it lists TIED to the program's text (the seventh form; the later family's looks); each row that meets fmt, with fmt's text TOLD by the authors' own Lean function (tested against real Go, not proved from fmt's source: count such statements apart). THE CARD IS WHAT COUNTS. Prove the row's statement (the work); the ties are given (YtnafegofmbhahaaDoorTie.lean); close each card by the builder's one call (the guide's Derived/Test/ToyasCard.lean, 'card_holds'). Laid BY PROGRAM, IN A SANDBOX (cutbox-door.mjs). By AI agents, Wed Nov 11 2026. No macro, syntax, notation, axiom, sorry.
-/
import Derived.Test.YtnafegofmbhahaaDoorRows
import GoSem.ClaimSeven
namespace Go.Proofs.YtnafegofmbhahaaDoor
namespace Rows

/-- THE TIED CARD OF 'witlaw4.TableEmpty'. -/
def tableEmptyCard : Claim7 := { stood := { row := tableEmptyRow, standIns := [], harness := (true, "2ca3ad88200c08f7a95bca49f88264a2c084e279e64be15b9ef1914247323b6e"), looks := true }, kinds := [], alts := [], laidByText := true, laidKinds := [.handle], laidTests := true, laidLooks := .later }
def TableEmptyCardSaid : Prop := Claim7.holds Tryd.pinned (.plain (OpenSpec.ofChange tableEmptySpec)) tableEmptyCard

/-- THE TIED CARD OF 'witlaw2.TableTells'. -/
def tableTellsCard : Claim7 := { stood := { row := tableTellsRow, standIns := [], harness := (true, "2ca3ad88200c08f7a95bca49f88264a2c084e279e64be15b9ef1914247323b6e"), looks := true }, kinds := [], alts := [], laidByText := true, laidKinds := [.handle], laidTests := true, laidLooks := .later }
def TableTellsCardSaid : Prop := Claim7.holds Tryd.pinned (.plain (OpenSpec.ofChange tableTellsSpec)) tableTellsCard

/-- THE TIED CARD OF 'witlaw3.KeysTell'. -/
def keysTellCard : Claim7 := { stood := { row := keysTellRow, standIns := [], harness := (true, "2ca3ad88200c08f7a95bca49f88264a2c084e279e64be15b9ef1914247323b6e"), looks := true }, kinds := [], alts := [], laidByText := true, laidKinds := [.handle], laidTests := true, laidLooks := .later }
def KeysTellCardSaid : Prop := Claim7.holds Tryd.pinned (.plain (OpenSpec.ofChange keysTellSpec)) keysTellCard

/-- THE TIED CARD OF 'witlaw4.StoreFull'. -/
def storeFullCard : Claim7 := { stood := { row := storeFullRow, standIns := [], harness := (true, "2ca3ad88200c08f7a95bca49f88264a2c084e279e64be15b9ef1914247323b6e"), looks := true }, kinds := [], alts := [], laidByText := true, laidKinds := [.handle], laidTests := true, laidLooks := .later }
def StoreFullCardSaid : Prop := Claim7.holds Tryd.pinned (.plain (OpenSpec.ofChange storeFullSpec)) storeFullCard

/-- THE TIED CARD OF 'witlaw2.StorePlays'. -/
def storePlaysCard : Claim7 := { stood := { row := storePlaysRow, standIns := [], harness := (true, "2ca3ad88200c08f7a95bca49f88264a2c084e279e64be15b9ef1914247323b6e"), looks := true }, kinds := [], alts := [], laidByText := true, laidKinds := [.handle], laidTests := true, laidLooks := .later }
def StorePlaysCardSaid : Prop := Claim7.holds Tryd.pinned (.plain (OpenSpec.ofChange storePlaysSpec)) storePlaysCard

/-- THE TIED CARD OF 'witlaw4.LsmMerges'. -/
def lsmMergesCard : Claim7 := { stood := { row := lsmMergesRow, standIns := [], harness := (true, "2ca3ad88200c08f7a95bca49f88264a2c084e279e64be15b9ef1914247323b6e"), looks := true }, kinds := [], alts := [], laidByText := true, laidKinds := [.handle], laidTests := true, laidLooks := .later }
def LsmMergesCardSaid : Prop := Claim7.holds Tryd.pinned (.plain (OpenSpec.ofChange lsmMergesSpec)) lsmMergesCard

/-- THE TIED CARD OF 'witlaw2.LsmPlays'. -/
def lsmPlaysCard : Claim7 := { stood := { row := lsmPlaysRow, standIns := [], harness := (true, "2ca3ad88200c08f7a95bca49f88264a2c084e279e64be15b9ef1914247323b6e"), looks := true }, kinds := [], alts := [], laidByText := true, laidKinds := [.handle], laidTests := true, laidLooks := .later }
def LsmPlaysCardSaid : Prop := Claim7.holds Tryd.pinned (.plain (OpenSpec.ofChange lsmPlaysSpec)) lsmPlaysCard

/-- THE TIED CARD OF 'witlaw4.WalWhole'. -/
def walWholeCard : Claim7 := { stood := { row := walWholeRow, standIns := [], harness := (true, "2ca3ad88200c08f7a95bca49f88264a2c084e279e64be15b9ef1914247323b6e"), looks := true }, kinds := [], alts := [], laidByText := true, laidKinds := [.data, .data, .data, .handle], laidTests := true, laidLooks := .later }
def WalWholeCardSaid : Prop := Claim7.holds Tryd.pinned (.plain (OpenSpec.ofChange walWholeSpec)) walWholeCard

/-- THE SECOND FORM's CARD OF 'witlaw4.TableEmpty'. -/
def tableEmptyUptoCard : Claim7 := { stood := { row := tableEmptyUptoRow, standIns := [], harness := (true, "2ca3ad88200c08f7a95bca49f88264a2c084e279e64be15b9ef1914247323b6e"), looks := true }, kinds := [], alts := [], laidByText := true, laidKinds := [.handle], laidTests := true, laidLooks := .later }
def TableEmptyUptoCardSaid : Prop := Claim7.holds Tryd.pinned (.plain (OpenSpec.upto tableEmptySpec)) tableEmptyUptoCard

/-- THE SECOND FORM's CARD OF 'witlaw2.TableTells'. -/
def tableTellsUptoCard : Claim7 := { stood := { row := tableTellsUptoRow, standIns := [], harness := (true, "2ca3ad88200c08f7a95bca49f88264a2c084e279e64be15b9ef1914247323b6e"), looks := true }, kinds := [], alts := [], laidByText := true, laidKinds := [.handle], laidTests := true, laidLooks := .later }
def TableTellsUptoCardSaid : Prop := Claim7.holds Tryd.pinned (.plain (OpenSpec.upto tableTellsSpec)) tableTellsUptoCard

/-- THE SECOND FORM's CARD OF 'witlaw3.KeysTell'. -/
def keysTellUptoCard : Claim7 := { stood := { row := keysTellUptoRow, standIns := [], harness := (true, "2ca3ad88200c08f7a95bca49f88264a2c084e279e64be15b9ef1914247323b6e"), looks := true }, kinds := [], alts := [], laidByText := true, laidKinds := [.handle], laidTests := true, laidLooks := .later }
def KeysTellUptoCardSaid : Prop := Claim7.holds Tryd.pinned (.plain (OpenSpec.upto keysTellSpec)) keysTellUptoCard

/-- THE SECOND FORM's CARD OF 'witlaw4.StoreFull'. -/
def storeFullUptoCard : Claim7 := { stood := { row := storeFullUptoRow, standIns := [], harness := (true, "2ca3ad88200c08f7a95bca49f88264a2c084e279e64be15b9ef1914247323b6e"), looks := true }, kinds := [], alts := [], laidByText := true, laidKinds := [.handle], laidTests := true, laidLooks := .later }
def StoreFullUptoCardSaid : Prop := Claim7.holds Tryd.pinned (.plain (OpenSpec.upto storeFullSpec)) storeFullUptoCard

/-- THE SECOND FORM's CARD OF 'witlaw2.StorePlays'. -/
def storePlaysUptoCard : Claim7 := { stood := { row := storePlaysUptoRow, standIns := [], harness := (true, "2ca3ad88200c08f7a95bca49f88264a2c084e279e64be15b9ef1914247323b6e"), looks := true }, kinds := [], alts := [], laidByText := true, laidKinds := [.handle], laidTests := true, laidLooks := .later }
def StorePlaysUptoCardSaid : Prop := Claim7.holds Tryd.pinned (.plain (OpenSpec.upto storePlaysSpec)) storePlaysUptoCard

/-- THE SECOND FORM's CARD OF 'witlaw4.LsmMerges'. -/
def lsmMergesUptoCard : Claim7 := { stood := { row := lsmMergesUptoRow, standIns := [], harness := (true, "2ca3ad88200c08f7a95bca49f88264a2c084e279e64be15b9ef1914247323b6e"), looks := true }, kinds := [], alts := [], laidByText := true, laidKinds := [.handle], laidTests := true, laidLooks := .later }
def LsmMergesUptoCardSaid : Prop := Claim7.holds Tryd.pinned (.plain (OpenSpec.upto lsmMergesSpec)) lsmMergesUptoCard

/-- THE SECOND FORM's CARD OF 'witlaw2.LsmPlays'. -/
def lsmPlaysUptoCard : Claim7 := { stood := { row := lsmPlaysUptoRow, standIns := [], harness := (true, "2ca3ad88200c08f7a95bca49f88264a2c084e279e64be15b9ef1914247323b6e"), looks := true }, kinds := [], alts := [], laidByText := true, laidKinds := [.handle], laidTests := true, laidLooks := .later }
def LsmPlaysUptoCardSaid : Prop := Claim7.holds Tryd.pinned (.plain (OpenSpec.upto lsmPlaysSpec)) lsmPlaysUptoCard

/-- THE SECOND FORM's CARD OF 'witlaw4.WalWhole'. -/
def walWholeUptoCard : Claim7 := { stood := { row := walWholeUptoRow, standIns := [], harness := (true, "2ca3ad88200c08f7a95bca49f88264a2c084e279e64be15b9ef1914247323b6e"), looks := true }, kinds := [], alts := [], laidByText := true, laidKinds := [.data, .data, .data, .handle], laidTests := true, laidLooks := .later }
def WalWholeUptoCardSaid : Prop := Claim7.holds Tryd.pinned (.plain (OpenSpec.upto walWholeSpec)) walWholeUptoCard
end Rows
end Go.Proofs.YtnafegofmbhahaaDoor
