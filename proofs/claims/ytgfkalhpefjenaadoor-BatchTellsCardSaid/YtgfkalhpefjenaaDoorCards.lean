/-
  DERIVED. GIVEN WITH THE SEED: THE CARDS: each row of YtgfkalhpefjenaaDoorRows.lean that lists a variable, with what it lists TIED to the program's text (the seventh form; the later family's looks); each row that meets fmt, with fmt's text TOLD by the authors' own Lean function (tested against real Go, not proved from fmt's source: count such statements apart). THE CARD IS WHAT COUNTS. Prove the row's statement (the work); the ties are given (YtgfkalhpefjenaaDoorTie.lean); close each card by the builder's one call (the guide's Derived/Test/ToyasCard.lean, 'card_holds'). Laid BY PROGRAM, IN A SANDBOX (cutbox-door.mjs). By AI agents, Wed Nov 11 2026. No macro, syntax, notation, axiom, sorry.
-/
import Derived.Test.YtgfkalhpefjenaaDoorRows
import GoSem.ClaimSeven
namespace Go.Proofs.YtgfkalhpefjenaaDoor
namespace Rows

/-- THE TIED CARD OF 'witlaw4.TileMany'. -/
def tileManyCard : Claim7 := { stood := { row := tileManyRow, standIns := [], harness := (true, "809e303e3cc9f70e1e118c3fc45cb2aedf2202c63ec0e6cb6b01b11c1208fd1f"), looks := true }, kinds := [], alts := [], laidByText := true, laidKinds := [.handle], laidTests := true, laidLooks := .later }
def TileManyCardSaid : Prop := Claim7.holds Tryd.pinned (.plain (OpenSpec.ofChange tileManySpec)) tileManyCard

/-- THE TIED CARD OF 'witlaw4.PeaksFull'. -/
def peaksFullCard : Claim7 := { stood := { row := peaksFullRow, standIns := [], harness := (true, "809e303e3cc9f70e1e118c3fc45cb2aedf2202c63ec0e6cb6b01b11c1208fd1f"), looks := true }, kinds := [], alts := [], laidByText := true, laidKinds := [.handle], laidTests := true, laidLooks := .later }
def PeaksFullCardSaid : Prop := Claim7.holds Tryd.pinned (.plain (OpenSpec.ofChange peaksFullSpec)) peaksFullCard

/-- THE TIED CARD OF 'witlaw4.ProofLong'. -/
def proofLongCard : Claim7 := { stood := { row := proofLongRow, standIns := [], harness := (true, "809e303e3cc9f70e1e118c3fc45cb2aedf2202c63ec0e6cb6b01b11c1208fd1f"), looks := true }, kinds := [], alts := [], laidByText := true, laidKinds := [.handle], laidTests := true, laidLooks := .later }
def ProofLongCardSaid : Prop := Claim7.holds Tryd.pinned (.plain (OpenSpec.ofChange proofLongSpec)) proofLongCard

/-- THE TIED CARD OF 'witlaw4.GrowSame'. -/
def growSameCard : Claim7 := { stood := { row := growSameRow, standIns := [], harness := (true, "809e303e3cc9f70e1e118c3fc45cb2aedf2202c63ec0e6cb6b01b11c1208fd1f"), looks := true }, kinds := [], alts := [], laidByText := true, laidKinds := [.handle], laidTests := true, laidLooks := .later }
def GrowSameCardSaid : Prop := Claim7.holds Tryd.pinned (.plain (OpenSpec.ofChange growSameSpec)) growSameCard

/-- THE TIED CARD OF 'witlaw1.PeaksTell'. -/
def peaksTellCard : Claim7 := { stood := { row := peaksTellRow, standIns := [], harness := (true, "809e303e3cc9f70e1e118c3fc45cb2aedf2202c63ec0e6cb6b01b11c1208fd1f"), looks := true }, kinds := [], alts := [], laidByText := true, laidKinds := [.handle], laidTests := true, laidLooks := .later }
def PeaksTellCardSaid : Prop := Claim7.holds Tryd.pinned (.plain (OpenSpec.ofChange peaksTellSpec)) peaksTellCard

/-- THE TIED CARD OF 'witlaw1.EntryTells'. -/
def entryTellsCard : Claim7 := { stood := { row := entryTellsRow, standIns := [], harness := (true, "809e303e3cc9f70e1e118c3fc45cb2aedf2202c63ec0e6cb6b01b11c1208fd1f"), looks := true }, kinds := [], alts := [], laidByText := true, laidKinds := [.handle], laidTests := true, laidLooks := .later }
def EntryTellsCardSaid : Prop := Claim7.holds Tryd.pinned (.plain (OpenSpec.ofChange entryTellsSpec)) entryTellsCard

/-- THE TIED CARD OF 'witlaw1.TileTells'. -/
def tileTellsCard : Claim7 := { stood := { row := tileTellsRow, standIns := [], harness := (true, "809e303e3cc9f70e1e118c3fc45cb2aedf2202c63ec0e6cb6b01b11c1208fd1f"), looks := true }, kinds := [], alts := [], laidByText := true, laidKinds := [.handle], laidTests := true, laidLooks := .later }
def TileTellsCardSaid : Prop := Claim7.holds Tryd.pinned (.plain (OpenSpec.ofChange tileTellsSpec)) tileTellsCard

/-- THE TIED CARD OF 'witlaw1.ProofTells'. -/
def proofTellsCard : Claim7 := { stood := { row := proofTellsRow, standIns := [], harness := (true, "809e303e3cc9f70e1e118c3fc45cb2aedf2202c63ec0e6cb6b01b11c1208fd1f"), looks := true }, kinds := [], alts := [], laidByText := true, laidKinds := [.handle], laidTests := true, laidLooks := .later }
def ProofTellsCardSaid : Prop := Claim7.holds Tryd.pinned (.plain (OpenSpec.ofChange proofTellsSpec)) proofTellsCard

/-- THE TIED CARD OF 'witlaw1.GrowTells'. -/
def growTellsCard : Claim7 := { stood := { row := growTellsRow, standIns := [], harness := (true, "809e303e3cc9f70e1e118c3fc45cb2aedf2202c63ec0e6cb6b01b11c1208fd1f"), looks := true }, kinds := [], alts := [], laidByText := true, laidKinds := [.handle], laidTests := true, laidLooks := .later }
def GrowTellsCardSaid : Prop := Claim7.holds Tryd.pinned (.plain (OpenSpec.ofChange growTellsSpec)) growTellsCard

/-- THE TIED CARD OF 'witlaw1.TreeTells'. -/
def treeTellsCard : Claim7 := { stood := { row := treeTellsRow, standIns := [], harness := (true, "809e303e3cc9f70e1e118c3fc45cb2aedf2202c63ec0e6cb6b01b11c1208fd1f"), looks := true }, kinds := [], alts := [], laidByText := true, laidKinds := [.handle], laidTests := true, laidLooks := .later }
def TreeTellsCardSaid : Prop := Claim7.holds Tryd.pinned (.plain (OpenSpec.ofChange treeTellsSpec)) treeTellsCard

/-- THE TIED CARD OF 'witlaw1.TreeClash'. -/
def treeClashCard : Claim7 := { stood := { row := treeClashRow, standIns := [], harness := (true, "809e303e3cc9f70e1e118c3fc45cb2aedf2202c63ec0e6cb6b01b11c1208fd1f"), looks := true }, kinds := [], alts := [], laidByText := true, laidKinds := [.handle], laidTests := true, laidLooks := .later }
def TreeClashCardSaid : Prop := Claim7.holds Tryd.pinned (.plain (OpenSpec.ofChange treeClashSpec)) treeClashCard

/-- THE TIED CARD OF 'witlaw1.GrowProves'. -/
def growProvesCard : Claim7 := { stood := { row := growProvesRow, standIns := [], harness := (true, "809e303e3cc9f70e1e118c3fc45cb2aedf2202c63ec0e6cb6b01b11c1208fd1f"), looks := true }, kinds := [], alts := [], laidByText := true, laidKinds := [.handle], laidTests := true, laidLooks := .later }
def GrowProvesCardSaid : Prop := Claim7.holds Tryd.pinned (.plain (OpenSpec.ofChange growProvesSpec)) growProvesCard

/-- THE TIED CARD OF 'witlaw3.PrunePlays'. -/
def prunePlaysCard : Claim7 := { stood := { row := prunePlaysRow, standIns := [], harness := (true, "809e303e3cc9f70e1e118c3fc45cb2aedf2202c63ec0e6cb6b01b11c1208fd1f"), looks := true }, kinds := [], alts := [], laidByText := true, laidKinds := [.handle], laidTests := true, laidLooks := .later }
def PrunePlaysCardSaid : Prop := Claim7.holds Tryd.pinned (.plain (OpenSpec.ofChange prunePlaysSpec)) prunePlaysCard

/-- THE TIED CARD OF 'witlaw3.BatchTells'. -/
def batchTellsCard : Claim7 := { stood := { row := batchTellsRow, standIns := [], harness := (true, "809e303e3cc9f70e1e118c3fc45cb2aedf2202c63ec0e6cb6b01b11c1208fd1f"), looks := true }, kinds := [], alts := [], laidByText := true, laidKinds := [.handle], laidTests := true, laidLooks := .later }
def BatchTellsCardSaid : Prop := Claim7.holds Tryd.pinned (.plain (OpenSpec.ofChange batchTellsSpec)) batchTellsCard

/-- THE TIED CARD OF 'witlaw4.PruneOne'. -/
def pruneOneCard : Claim7 := { stood := { row := pruneOneRow, standIns := [], harness := (true, "809e303e3cc9f70e1e118c3fc45cb2aedf2202c63ec0e6cb6b01b11c1208fd1f"), looks := true }, kinds := [], alts := [], laidByText := true, laidKinds := [.handle], laidTests := true, laidLooks := .later }
def PruneOneCardSaid : Prop := Claim7.holds Tryd.pinned (.plain (OpenSpec.ofChange pruneOneSpec)) pruneOneCard

/-- THE SECOND FORM's CARD OF 'witlaw4.TileMany'. -/
def tileManyUptoCard : Claim7 := { stood := { row := tileManyUptoRow, standIns := [], harness := (true, "809e303e3cc9f70e1e118c3fc45cb2aedf2202c63ec0e6cb6b01b11c1208fd1f"), looks := true }, kinds := [], alts := [], laidByText := true, laidKinds := [.handle], laidTests := true, laidLooks := .later }
def TileManyUptoCardSaid : Prop := Claim7.holds Tryd.pinned (.plain (OpenSpec.upto tileManySpec)) tileManyUptoCard

/-- THE SECOND FORM's CARD OF 'witlaw4.PeaksFull'. -/
def peaksFullUptoCard : Claim7 := { stood := { row := peaksFullUptoRow, standIns := [], harness := (true, "809e303e3cc9f70e1e118c3fc45cb2aedf2202c63ec0e6cb6b01b11c1208fd1f"), looks := true }, kinds := [], alts := [], laidByText := true, laidKinds := [.handle], laidTests := true, laidLooks := .later }
def PeaksFullUptoCardSaid : Prop := Claim7.holds Tryd.pinned (.plain (OpenSpec.upto peaksFullSpec)) peaksFullUptoCard

/-- THE SECOND FORM's CARD OF 'witlaw4.ProofLong'. -/
def proofLongUptoCard : Claim7 := { stood := { row := proofLongUptoRow, standIns := [], harness := (true, "809e303e3cc9f70e1e118c3fc45cb2aedf2202c63ec0e6cb6b01b11c1208fd1f"), looks := true }, kinds := [], alts := [], laidByText := true, laidKinds := [.handle], laidTests := true, laidLooks := .later }
def ProofLongUptoCardSaid : Prop := Claim7.holds Tryd.pinned (.plain (OpenSpec.upto proofLongSpec)) proofLongUptoCard

/-- THE SECOND FORM's CARD OF 'witlaw4.GrowSame'. -/
def growSameUptoCard : Claim7 := { stood := { row := growSameUptoRow, standIns := [], harness := (true, "809e303e3cc9f70e1e118c3fc45cb2aedf2202c63ec0e6cb6b01b11c1208fd1f"), looks := true }, kinds := [], alts := [], laidByText := true, laidKinds := [.handle], laidTests := true, laidLooks := .later }
def GrowSameUptoCardSaid : Prop := Claim7.holds Tryd.pinned (.plain (OpenSpec.upto growSameSpec)) growSameUptoCard

/-- THE SECOND FORM's CARD OF 'witlaw1.PeaksTell'. -/
def peaksTellUptoCard : Claim7 := { stood := { row := peaksTellUptoRow, standIns := [], harness := (true, "809e303e3cc9f70e1e118c3fc45cb2aedf2202c63ec0e6cb6b01b11c1208fd1f"), looks := true }, kinds := [], alts := [], laidByText := true, laidKinds := [.handle], laidTests := true, laidLooks := .later }
def PeaksTellUptoCardSaid : Prop := Claim7.holds Tryd.pinned (.plain (OpenSpec.upto peaksTellSpec)) peaksTellUptoCard

/-- THE SECOND FORM's CARD OF 'witlaw1.EntryTells'. -/
def entryTellsUptoCard : Claim7 := { stood := { row := entryTellsUptoRow, standIns := [], harness := (true, "809e303e3cc9f70e1e118c3fc45cb2aedf2202c63ec0e6cb6b01b11c1208fd1f"), looks := true }, kinds := [], alts := [], laidByText := true, laidKinds := [.handle], laidTests := true, laidLooks := .later }
def EntryTellsUptoCardSaid : Prop := Claim7.holds Tryd.pinned (.plain (OpenSpec.upto entryTellsSpec)) entryTellsUptoCard

/-- THE SECOND FORM's CARD OF 'witlaw1.TileTells'. -/
def tileTellsUptoCard : Claim7 := { stood := { row := tileTellsUptoRow, standIns := [], harness := (true, "809e303e3cc9f70e1e118c3fc45cb2aedf2202c63ec0e6cb6b01b11c1208fd1f"), looks := true }, kinds := [], alts := [], laidByText := true, laidKinds := [.handle], laidTests := true, laidLooks := .later }
def TileTellsUptoCardSaid : Prop := Claim7.holds Tryd.pinned (.plain (OpenSpec.upto tileTellsSpec)) tileTellsUptoCard

/-- THE SECOND FORM's CARD OF 'witlaw1.ProofTells'. -/
def proofTellsUptoCard : Claim7 := { stood := { row := proofTellsUptoRow, standIns := [], harness := (true, "809e303e3cc9f70e1e118c3fc45cb2aedf2202c63ec0e6cb6b01b11c1208fd1f"), looks := true }, kinds := [], alts := [], laidByText := true, laidKinds := [.handle], laidTests := true, laidLooks := .later }
def ProofTellsUptoCardSaid : Prop := Claim7.holds Tryd.pinned (.plain (OpenSpec.upto proofTellsSpec)) proofTellsUptoCard

/-- THE SECOND FORM's CARD OF 'witlaw1.GrowTells'. -/
def growTellsUptoCard : Claim7 := { stood := { row := growTellsUptoRow, standIns := [], harness := (true, "809e303e3cc9f70e1e118c3fc45cb2aedf2202c63ec0e6cb6b01b11c1208fd1f"), looks := true }, kinds := [], alts := [], laidByText := true, laidKinds := [.handle], laidTests := true, laidLooks := .later }
def GrowTellsUptoCardSaid : Prop := Claim7.holds Tryd.pinned (.plain (OpenSpec.upto growTellsSpec)) growTellsUptoCard

/-- THE SECOND FORM's CARD OF 'witlaw1.TreeTells'. -/
def treeTellsUptoCard : Claim7 := { stood := { row := treeTellsUptoRow, standIns := [], harness := (true, "809e303e3cc9f70e1e118c3fc45cb2aedf2202c63ec0e6cb6b01b11c1208fd1f"), looks := true }, kinds := [], alts := [], laidByText := true, laidKinds := [.handle], laidTests := true, laidLooks := .later }
def TreeTellsUptoCardSaid : Prop := Claim7.holds Tryd.pinned (.plain (OpenSpec.upto treeTellsSpec)) treeTellsUptoCard

/-- THE SECOND FORM's CARD OF 'witlaw1.TreeClash'. -/
def treeClashUptoCard : Claim7 := { stood := { row := treeClashUptoRow, standIns := [], harness := (true, "809e303e3cc9f70e1e118c3fc45cb2aedf2202c63ec0e6cb6b01b11c1208fd1f"), looks := true }, kinds := [], alts := [], laidByText := true, laidKinds := [.handle], laidTests := true, laidLooks := .later }
def TreeClashUptoCardSaid : Prop := Claim7.holds Tryd.pinned (.plain (OpenSpec.upto treeClashSpec)) treeClashUptoCard

/-- THE SECOND FORM's CARD OF 'witlaw1.GrowProves'. -/
def growProvesUptoCard : Claim7 := { stood := { row := growProvesUptoRow, standIns := [], harness := (true, "809e303e3cc9f70e1e118c3fc45cb2aedf2202c63ec0e6cb6b01b11c1208fd1f"), looks := true }, kinds := [], alts := [], laidByText := true, laidKinds := [.handle], laidTests := true, laidLooks := .later }
def GrowProvesUptoCardSaid : Prop := Claim7.holds Tryd.pinned (.plain (OpenSpec.upto growProvesSpec)) growProvesUptoCard

/-- THE SECOND FORM's CARD OF 'witlaw3.PrunePlays'. -/
def prunePlaysUptoCard : Claim7 := { stood := { row := prunePlaysUptoRow, standIns := [], harness := (true, "809e303e3cc9f70e1e118c3fc45cb2aedf2202c63ec0e6cb6b01b11c1208fd1f"), looks := true }, kinds := [], alts := [], laidByText := true, laidKinds := [.handle], laidTests := true, laidLooks := .later }
def PrunePlaysUptoCardSaid : Prop := Claim7.holds Tryd.pinned (.plain (OpenSpec.upto prunePlaysSpec)) prunePlaysUptoCard

/-- THE SECOND FORM's CARD OF 'witlaw3.BatchTells'. -/
def batchTellsUptoCard : Claim7 := { stood := { row := batchTellsUptoRow, standIns := [], harness := (true, "809e303e3cc9f70e1e118c3fc45cb2aedf2202c63ec0e6cb6b01b11c1208fd1f"), looks := true }, kinds := [], alts := [], laidByText := true, laidKinds := [.handle], laidTests := true, laidLooks := .later }
def BatchTellsUptoCardSaid : Prop := Claim7.holds Tryd.pinned (.plain (OpenSpec.upto batchTellsSpec)) batchTellsUptoCard

/-- THE SECOND FORM's CARD OF 'witlaw4.PruneOne'. -/
def pruneOneUptoCard : Claim7 := { stood := { row := pruneOneUptoRow, standIns := [], harness := (true, "809e303e3cc9f70e1e118c3fc45cb2aedf2202c63ec0e6cb6b01b11c1208fd1f"), looks := true }, kinds := [], alts := [], laidByText := true, laidKinds := [.handle], laidTests := true, laidLooks := .later }
def PruneOneUptoCardSaid : Prop := Claim7.holds Tryd.pinned (.plain (OpenSpec.upto pruneOneSpec)) pruneOneUptoCard
end Rows
end Go.Proofs.YtgfkalhpefjenaaDoor
