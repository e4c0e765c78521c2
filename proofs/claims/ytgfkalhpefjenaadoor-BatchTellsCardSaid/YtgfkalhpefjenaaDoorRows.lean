/-
  NARROWER THAN 'FOR EVERY INPUT', by the rows' own cells (each row's printed sentence says how): TileMany: laid · PeaksFull: laid · ProofLong: laid · GrowSame: laid · PeaksTell: laid · EntryTells: laid · TileTells: laid · ProofTells: laid · GrowTells: laid · TreeTells: laid · TreeClash: laid · GrowProves: laid · PrunePlays: laid · BatchTells: laid · PruneOne: laid.
  DERIVED. THE GIVEN ROWS OF THIS SEAT. 15 by the template 'for every input the law returns true; each argument reads behind the call as it read before'; 0 by the template 'total and deterministic' (their statements: YtgfkalhpefjenaaDoorTotals.lean).
  GIVEN WITH THE SEED: the statements are not yours to turn. If you find one false, say at which input.
  Laid BY PROGRAM, IN A SANDBOX (cutbox-rows.mjs): the forced cells as the released guide's own fill.sh prints them over the translation ee584ef452d4d578… (all of the seat's roots in one cut). By AI agents, Wed Nov 11 2026. No macro, syntax, notation, axiom, sorry.
-/
import Derived.Test.YtgfkalhpefjenaaDoorChecked
import GoSem.Claim
import GoSem.ClaimJoined
import GoSem.ClaimMapViews
import Derived.JoinedTies
import Derived.KernelRfl
namespace Go.Proofs.YtgfkalhpefjenaaDoor
/- THE CELL 'sum', in the pinned program and in every row, IS THE sha256 OF THE DUMP (.gsa) THAT YtgfkalhpefjenaaDoorProg.lean LOADS. Nothing in Lean hashes anything: it is a label: what it is worth is what the hold of that sum in a sandbox is worth. -/
noncomputable def Tryd.pinned : Pinned := { name := "ytgfkalhpefjenaadoor", sum := "ee584ef452d4d578be9ace225494841fb58de94379da4fbe2b65ccb21daf8ab1", checked := Tryd.checked }
namespace Rows
def none {H : Type} : Left H := { results := [], args := [] }

/- WHAT THE LISTED PACKAGE-LEVEL VARIABLES READ AS WHEN THE CALL BEGINS. Each datum BY PROGRAM (the guide's laid-datum.mjs) off the statement by which the dump's own 'gosem.cut.vars' lays the variable. In a bare row this is a premise. The card (YtgfkalhpefjenaaDoorCards.lean) ties it to the program's text. -/
def laid_errors_errorType {H : Type} : DataW H := .iface "internal/reflectlite.rtype" (.agg [.ptr (.lit (.string [101, 114, 114, 111, 114]))])

/-- 'witlaw4.TileMany': WHATEVER THE INPUT: true; the input reads as it did. -/
def tileManySpec : ChangeSpec := { name := "tileMany", fn := fun _ => fun
  | [d] => { results := [.lit (.bool true)], args := [d] }
  | _ => none }
def tileManyRow : OpenClaim := { program := "ytgfkalhpefjenaadoor", sum := "ee584ef452d4d578be9ace225494841fb58de94379da4fbe2b65ccb21daf8ab1", func := "witnessbox/witlaw4.TileMany", spec := "tileMany", inPlace := ["internal/reflectlite.ValueOf", "(internal/reflectlite.Value).Type", "(internal/reflectlite.Value).IsNil", "internal/reflectlite.TypeOf", "(internal/reflectlite.Value).Elem", "(internal/reflectlite.Value).Set"], unfollowed := true, recurses := true, named := ["errors.errorType"], apart := false, laid := [("errors.errorType", laid_errors_errorType)] }
def TileManySaid : Prop := tileManyRow.holds Tryd.pinned (OpenSpec.ofChange tileManySpec)

/-- ITS FALSE NEIGHBOUR: 'it returns false'. Refute it at one input. -/
def tileManyWrong : ChangeSpec := { name := "tileMany", fn := fun _ => fun
  | [d] => { results := [.lit (.bool false)], args := [d] }
  | _ => none }
def TileManyWrongFalsely : Prop := tileManyRow.holds Tryd.pinned (OpenSpec.ofChange tileManyWrong)

/-- 'witlaw4.PeaksFull': WHATEVER THE INPUT: true; the input reads as it did. -/
def peaksFullSpec : ChangeSpec := { name := "peaksFull", fn := fun _ => fun
  | [d] => { results := [.lit (.bool true)], args := [d] }
  | _ => none }
def peaksFullRow : OpenClaim := { program := "ytgfkalhpefjenaadoor", sum := "ee584ef452d4d578be9ace225494841fb58de94379da4fbe2b65ccb21daf8ab1", func := "witnessbox/witlaw4.PeaksFull", spec := "peaksFull", inPlace := ["internal/reflectlite.ValueOf", "(internal/reflectlite.Value).Type", "(internal/reflectlite.Value).IsNil", "internal/reflectlite.TypeOf", "(internal/reflectlite.Value).Elem", "(internal/reflectlite.Value).Set"], unfollowed := true, recurses := true, named := ["errors.errorType"], apart := false, laid := [("errors.errorType", laid_errors_errorType)] }
def PeaksFullSaid : Prop := peaksFullRow.holds Tryd.pinned (OpenSpec.ofChange peaksFullSpec)

/-- ITS FALSE NEIGHBOUR: 'it returns false'. Refute it at one input. -/
def peaksFullWrong : ChangeSpec := { name := "peaksFull", fn := fun _ => fun
  | [d] => { results := [.lit (.bool false)], args := [d] }
  | _ => none }
def PeaksFullWrongFalsely : Prop := peaksFullRow.holds Tryd.pinned (OpenSpec.ofChange peaksFullWrong)

/-- 'witlaw4.ProofLong': WHATEVER THE INPUT: true; the input reads as it did. -/
def proofLongSpec : ChangeSpec := { name := "proofLong", fn := fun _ => fun
  | [d1, d2] => { results := [.lit (.bool true)], args := [d1, d2] }
  | _ => none }
def proofLongRow : OpenClaim := { program := "ytgfkalhpefjenaadoor", sum := "ee584ef452d4d578be9ace225494841fb58de94379da4fbe2b65ccb21daf8ab1", func := "witnessbox/witlaw4.ProofLong", spec := "proofLong", inPlace := ["internal/reflectlite.ValueOf", "(internal/reflectlite.Value).Type", "(internal/reflectlite.Value).IsNil", "internal/reflectlite.TypeOf", "(internal/reflectlite.Value).Elem", "(internal/reflectlite.Value).Set"], unfollowed := true, recurses := true, named := ["errors.errorType"], apart := false, laid := [("errors.errorType", laid_errors_errorType)] }
def ProofLongSaid : Prop := proofLongRow.holds Tryd.pinned (OpenSpec.ofChange proofLongSpec)

/-- ITS FALSE NEIGHBOUR: 'it returns false'. Refute it at one input. -/
def proofLongWrong : ChangeSpec := { name := "proofLong", fn := fun _ => fun
  | [d1, d2] => { results := [.lit (.bool false)], args := [d1, d2] }
  | _ => none }
def ProofLongWrongFalsely : Prop := proofLongRow.holds Tryd.pinned (OpenSpec.ofChange proofLongWrong)

/-- 'witlaw4.GrowSame': WHATEVER THE INPUT: true; the input reads as it did. -/
def growSameSpec : ChangeSpec := { name := "growSame", fn := fun _ => fun
  | [d1, d2, d3] => { results := [.lit (.bool true)], args := [d1, d2, d3] }
  | _ => none }
def growSameRow : OpenClaim := { program := "ytgfkalhpefjenaadoor", sum := "ee584ef452d4d578be9ace225494841fb58de94379da4fbe2b65ccb21daf8ab1", func := "witnessbox/witlaw4.GrowSame", spec := "growSame", inPlace := ["internal/reflectlite.ValueOf", "(internal/reflectlite.Value).Type", "(internal/reflectlite.Value).IsNil", "internal/reflectlite.TypeOf", "(internal/reflectlite.Value).Elem", "(internal/reflectlite.Value).Set"], unfollowed := true, recurses := true, named := ["errors.errorType"], apart := false, laid := [("errors.errorType", laid_errors_errorType)] }
def GrowSameSaid : Prop := growSameRow.holds Tryd.pinned (OpenSpec.ofChange growSameSpec)

/-- ITS FALSE NEIGHBOUR: 'it returns false'. Refute it at one input. -/
def growSameWrong : ChangeSpec := { name := "growSame", fn := fun _ => fun
  | [d1, d2, d3] => { results := [.lit (.bool false)], args := [d1, d2, d3] }
  | _ => none }
def GrowSameWrongFalsely : Prop := growSameRow.holds Tryd.pinned (OpenSpec.ofChange growSameWrong)

/-- 'witlaw1.PeaksTell': WHATEVER THE INPUT: true; the input reads as it did. -/
def peaksTellSpec : ChangeSpec := { name := "peaksTell", fn := fun _ => fun
  | [d1, d2, d3] => { results := [.lit (.bool true)], args := [d1, d2, d3] }
  | _ => none }
def peaksTellRow : OpenClaim := { program := "ytgfkalhpefjenaadoor", sum := "ee584ef452d4d578be9ace225494841fb58de94379da4fbe2b65ccb21daf8ab1", func := "witnessbox/witlaw1.PeaksTell", spec := "peaksTell", inPlace := ["internal/reflectlite.ValueOf", "(internal/reflectlite.Value).Type", "(internal/reflectlite.Value).IsNil", "internal/reflectlite.TypeOf", "(internal/reflectlite.Value).Elem", "(internal/reflectlite.Value).Set"], unfollowed := true, recurses := true, named := ["errors.errorType"], apart := false, laid := [("errors.errorType", laid_errors_errorType)] }
def PeaksTellSaid : Prop := peaksTellRow.holds Tryd.pinned (OpenSpec.ofChange peaksTellSpec)

/-- ITS FALSE NEIGHBOUR: 'it returns false'. Refute it at one input. -/
def peaksTellWrong : ChangeSpec := { name := "peaksTell", fn := fun _ => fun
  | [d1, d2, d3] => { results := [.lit (.bool false)], args := [d1, d2, d3] }
  | _ => none }
def PeaksTellWrongFalsely : Prop := peaksTellRow.holds Tryd.pinned (OpenSpec.ofChange peaksTellWrong)

/-- 'witlaw1.EntryTells': WHATEVER THE INPUT: true; the input reads as it did. -/
def entryTellsSpec : ChangeSpec := { name := "entryTells", fn := fun _ => fun
  | [d1, d2, d3, d4] => { results := [.lit (.bool true)], args := [d1, d2, d3, d4] }
  | _ => none }
def entryTellsRow : OpenClaim := { program := "ytgfkalhpefjenaadoor", sum := "ee584ef452d4d578be9ace225494841fb58de94379da4fbe2b65ccb21daf8ab1", func := "witnessbox/witlaw1.EntryTells", spec := "entryTells", inPlace := ["internal/reflectlite.ValueOf", "(internal/reflectlite.Value).Type", "(internal/reflectlite.Value).IsNil", "internal/reflectlite.TypeOf", "(internal/reflectlite.Value).Elem", "(internal/reflectlite.Value).Set"], unfollowed := true, recurses := true, named := ["errors.errorType"], apart := false, laid := [("errors.errorType", laid_errors_errorType)] }
def EntryTellsSaid : Prop := entryTellsRow.holds Tryd.pinned (OpenSpec.ofChange entryTellsSpec)

/-- ITS FALSE NEIGHBOUR: 'it returns false'. Refute it at one input. -/
def entryTellsWrong : ChangeSpec := { name := "entryTells", fn := fun _ => fun
  | [d1, d2, d3, d4] => { results := [.lit (.bool false)], args := [d1, d2, d3, d4] }
  | _ => none }
def EntryTellsWrongFalsely : Prop := entryTellsRow.holds Tryd.pinned (OpenSpec.ofChange entryTellsWrong)

/-- 'witlaw1.TileTells': WHATEVER THE INPUT: true; the input reads as it did. -/
def tileTellsSpec : ChangeSpec := { name := "tileTells", fn := fun _ => fun
  | [d1, d2, d3, d4, d5] => { results := [.lit (.bool true)], args := [d1, d2, d3, d4, d5] }
  | _ => none }
def tileTellsRow : OpenClaim := { program := "ytgfkalhpefjenaadoor", sum := "ee584ef452d4d578be9ace225494841fb58de94379da4fbe2b65ccb21daf8ab1", func := "witnessbox/witlaw1.TileTells", spec := "tileTells", inPlace := ["internal/reflectlite.ValueOf", "(internal/reflectlite.Value).Type", "(internal/reflectlite.Value).IsNil", "internal/reflectlite.TypeOf", "(internal/reflectlite.Value).Elem", "(internal/reflectlite.Value).Set"], unfollowed := true, recurses := true, named := ["errors.errorType"], apart := false, laid := [("errors.errorType", laid_errors_errorType)] }
def TileTellsSaid : Prop := tileTellsRow.holds Tryd.pinned (OpenSpec.ofChange tileTellsSpec)

/-- ITS FALSE NEIGHBOUR: 'it returns false'. Refute it at one input. -/
def tileTellsWrong : ChangeSpec := { name := "tileTells", fn := fun _ => fun
  | [d1, d2, d3, d4, d5] => { results := [.lit (.bool false)], args := [d1, d2, d3, d4, d5] }
  | _ => none }
def TileTellsWrongFalsely : Prop := tileTellsRow.holds Tryd.pinned (OpenSpec.ofChange tileTellsWrong)

/-- 'witlaw1.ProofTells': WHATEVER THE INPUT: true; the input reads as it did. -/
def proofTellsSpec : ChangeSpec := { name := "proofTells", fn := fun _ => fun
  | [d1, d2, d3, d4, d5, d6] => { results := [.lit (.bool true)], args := [d1, d2, d3, d4, d5, d6] }
  | _ => none }
def proofTellsRow : OpenClaim := { program := "ytgfkalhpefjenaadoor", sum := "ee584ef452d4d578be9ace225494841fb58de94379da4fbe2b65ccb21daf8ab1", func := "witnessbox/witlaw1.ProofTells", spec := "proofTells", inPlace := ["internal/reflectlite.ValueOf", "(internal/reflectlite.Value).Type", "(internal/reflectlite.Value).IsNil", "internal/reflectlite.TypeOf", "(internal/reflectlite.Value).Elem", "(internal/reflectlite.Value).Set"], unfollowed := true, recurses := true, named := ["errors.errorType"], apart := false, laid := [("errors.errorType", laid_errors_errorType)] }
def ProofTellsSaid : Prop := proofTellsRow.holds Tryd.pinned (OpenSpec.ofChange proofTellsSpec)

/-- ITS FALSE NEIGHBOUR: 'it returns false'. Refute it at one input. -/
def proofTellsWrong : ChangeSpec := { name := "proofTells", fn := fun _ => fun
  | [d1, d2, d3, d4, d5, d6] => { results := [.lit (.bool false)], args := [d1, d2, d3, d4, d5, d6] }
  | _ => none }
def ProofTellsWrongFalsely : Prop := proofTellsRow.holds Tryd.pinned (OpenSpec.ofChange proofTellsWrong)

/-- 'witlaw1.GrowTells': WHATEVER THE INPUT: true; the input reads as it did. -/
def growTellsSpec : ChangeSpec := { name := "growTells", fn := fun _ => fun
  | [d1, d2, d3, d4, d5, d6] => { results := [.lit (.bool true)], args := [d1, d2, d3, d4, d5, d6] }
  | _ => none }
def growTellsRow : OpenClaim := { program := "ytgfkalhpefjenaadoor", sum := "ee584ef452d4d578be9ace225494841fb58de94379da4fbe2b65ccb21daf8ab1", func := "witnessbox/witlaw1.GrowTells", spec := "growTells", inPlace := ["internal/reflectlite.ValueOf", "(internal/reflectlite.Value).Type", "(internal/reflectlite.Value).IsNil", "internal/reflectlite.TypeOf", "(internal/reflectlite.Value).Elem", "(internal/reflectlite.Value).Set"], unfollowed := true, recurses := true, named := ["errors.errorType"], apart := false, laid := [("errors.errorType", laid_errors_errorType)] }
def GrowTellsSaid : Prop := growTellsRow.holds Tryd.pinned (OpenSpec.ofChange growTellsSpec)

/-- ITS FALSE NEIGHBOUR: 'it returns false'. Refute it at one input. -/
def growTellsWrong : ChangeSpec := { name := "growTells", fn := fun _ => fun
  | [d1, d2, d3, d4, d5, d6] => { results := [.lit (.bool false)], args := [d1, d2, d3, d4, d5, d6] }
  | _ => none }
def GrowTellsWrongFalsely : Prop := growTellsRow.holds Tryd.pinned (OpenSpec.ofChange growTellsWrong)

/-- 'witlaw1.TreeTells': WHATEVER THE INPUT: true; the input reads as it did. -/
def treeTellsSpec : ChangeSpec := { name := "treeTells", fn := fun _ => fun
  | [d1, d2, d3, d4, d5, d6] => { results := [.lit (.bool true)], args := [d1, d2, d3, d4, d5, d6] }
  | _ => none }
def treeTellsRow : OpenClaim := { program := "ytgfkalhpefjenaadoor", sum := "ee584ef452d4d578be9ace225494841fb58de94379da4fbe2b65ccb21daf8ab1", func := "witnessbox/witlaw1.TreeTells", spec := "treeTells", inPlace := ["internal/reflectlite.ValueOf", "(internal/reflectlite.Value).Type", "(internal/reflectlite.Value).IsNil", "internal/reflectlite.TypeOf", "(internal/reflectlite.Value).Elem", "(internal/reflectlite.Value).Set"], unfollowed := true, recurses := true, named := ["errors.errorType"], apart := false, laid := [("errors.errorType", laid_errors_errorType)] }
def TreeTellsSaid : Prop := treeTellsRow.holds Tryd.pinned (OpenSpec.ofChange treeTellsSpec)

/-- ITS FALSE NEIGHBOUR: 'it returns false'. Refute it at one input. -/
def treeTellsWrong : ChangeSpec := { name := "treeTells", fn := fun _ => fun
  | [d1, d2, d3, d4, d5, d6] => { results := [.lit (.bool false)], args := [d1, d2, d3, d4, d5, d6] }
  | _ => none }
def TreeTellsWrongFalsely : Prop := treeTellsRow.holds Tryd.pinned (OpenSpec.ofChange treeTellsWrong)

/-- 'witlaw1.TreeClash': WHATEVER THE INPUT: true; the input reads as it did. -/
def treeClashSpec : ChangeSpec := { name := "treeClash", fn := fun _ => fun
  | [d1, d2] => { results := [.lit (.bool true)], args := [d1, d2] }
  | _ => none }
def treeClashRow : OpenClaim := { program := "ytgfkalhpefjenaadoor", sum := "ee584ef452d4d578be9ace225494841fb58de94379da4fbe2b65ccb21daf8ab1", func := "witnessbox/witlaw1.TreeClash", spec := "treeClash", inPlace := ["internal/reflectlite.ValueOf", "(internal/reflectlite.Value).Type", "(internal/reflectlite.Value).IsNil", "internal/reflectlite.TypeOf", "(internal/reflectlite.Value).Elem", "(internal/reflectlite.Value).Set"], unfollowed := true, recurses := true, named := ["errors.errorType"], apart := false, laid := [("errors.errorType", laid_errors_errorType)] }
def TreeClashSaid : Prop := treeClashRow.holds Tryd.pinned (OpenSpec.ofChange treeClashSpec)

/-- ITS FALSE NEIGHBOUR: 'it returns false'. Refute it at one input. -/
def treeClashWrong : ChangeSpec := { name := "treeClash", fn := fun _ => fun
  | [d1, d2] => { results := [.lit (.bool false)], args := [d1, d2] }
  | _ => none }
def TreeClashWrongFalsely : Prop := treeClashRow.holds Tryd.pinned (OpenSpec.ofChange treeClashWrong)

/-- 'witlaw1.GrowProves': WHATEVER THE INPUT: true; the input reads as it did. -/
def growProvesSpec : ChangeSpec := { name := "growProves", fn := fun _ => fun
  | [d1, d2, d3, d4] => { results := [.lit (.bool true)], args := [d1, d2, d3, d4] }
  | _ => none }
def growProvesRow : OpenClaim := { program := "ytgfkalhpefjenaadoor", sum := "ee584ef452d4d578be9ace225494841fb58de94379da4fbe2b65ccb21daf8ab1", func := "witnessbox/witlaw1.GrowProves", spec := "growProves", inPlace := ["internal/reflectlite.ValueOf", "(internal/reflectlite.Value).Type", "(internal/reflectlite.Value).IsNil", "internal/reflectlite.TypeOf", "(internal/reflectlite.Value).Elem", "(internal/reflectlite.Value).Set"], unfollowed := true, recurses := true, named := ["errors.errorType"], apart := false, laid := [("errors.errorType", laid_errors_errorType)] }
def GrowProvesSaid : Prop := growProvesRow.holds Tryd.pinned (OpenSpec.ofChange growProvesSpec)

/-- ITS FALSE NEIGHBOUR: 'it returns false'. Refute it at one input. -/
def growProvesWrong : ChangeSpec := { name := "growProves", fn := fun _ => fun
  | [d1, d2, d3, d4] => { results := [.lit (.bool false)], args := [d1, d2, d3, d4] }
  | _ => none }
def GrowProvesWrongFalsely : Prop := growProvesRow.holds Tryd.pinned (OpenSpec.ofChange growProvesWrong)

/-- 'witlaw3.PrunePlays': WHATEVER THE INPUT: true; the input reads as it did. -/
def prunePlaysSpec : ChangeSpec := { name := "prunePlays", fn := fun _ => fun
  | [d1, d2, d3, d4, d5] => { results := [.lit (.bool true)], args := [d1, d2, d3, d4, d5] }
  | _ => none }
def prunePlaysRow : OpenClaim := { program := "ytgfkalhpefjenaadoor", sum := "ee584ef452d4d578be9ace225494841fb58de94379da4fbe2b65ccb21daf8ab1", func := "witnessbox/witlaw3.PrunePlays", spec := "prunePlays", inPlace := ["internal/reflectlite.ValueOf", "(internal/reflectlite.Value).Type", "(internal/reflectlite.Value).IsNil", "internal/reflectlite.TypeOf", "(internal/reflectlite.Value).Elem", "(internal/reflectlite.Value).Set"], unfollowed := true, recurses := true, named := ["errors.errorType"], apart := false, laid := [("errors.errorType", laid_errors_errorType)] }
def PrunePlaysSaid : Prop := prunePlaysRow.holds Tryd.pinned (OpenSpec.ofChange prunePlaysSpec)

/-- ITS FALSE NEIGHBOUR: 'it returns false'. Refute it at one input. -/
def prunePlaysWrong : ChangeSpec := { name := "prunePlays", fn := fun _ => fun
  | [d1, d2, d3, d4, d5] => { results := [.lit (.bool false)], args := [d1, d2, d3, d4, d5] }
  | _ => none }
def PrunePlaysWrongFalsely : Prop := prunePlaysRow.holds Tryd.pinned (OpenSpec.ofChange prunePlaysWrong)

/-- 'witlaw3.BatchTells': WHATEVER THE INPUT: true; the input reads as it did. -/
def batchTellsSpec : ChangeSpec := { name := "batchTells", fn := fun _ => fun
  | [d1, d2, d3, d4, d5, d6] => { results := [.lit (.bool true)], args := [d1, d2, d3, d4, d5, d6] }
  | _ => none }
def batchTellsRow : OpenClaim := { program := "ytgfkalhpefjenaadoor", sum := "ee584ef452d4d578be9ace225494841fb58de94379da4fbe2b65ccb21daf8ab1", func := "witnessbox/witlaw3.BatchTells", spec := "batchTells", inPlace := ["internal/reflectlite.ValueOf", "(internal/reflectlite.Value).Type", "(internal/reflectlite.Value).IsNil", "internal/reflectlite.TypeOf", "(internal/reflectlite.Value).Elem", "(internal/reflectlite.Value).Set"], unfollowed := true, recurses := true, named := ["errors.errorType"], apart := false, laid := [("errors.errorType", laid_errors_errorType)] }
def BatchTellsSaid : Prop := batchTellsRow.holds Tryd.pinned (OpenSpec.ofChange batchTellsSpec)

/-- ITS FALSE NEIGHBOUR: 'it returns false'. Refute it at one input. -/
def batchTellsWrong : ChangeSpec := { name := "batchTells", fn := fun _ => fun
  | [d1, d2, d3, d4, d5, d6] => { results := [.lit (.bool false)], args := [d1, d2, d3, d4, d5, d6] }
  | _ => none }
def BatchTellsWrongFalsely : Prop := batchTellsRow.holds Tryd.pinned (OpenSpec.ofChange batchTellsWrong)

/-- 'witlaw4.PruneOne': WHATEVER THE INPUT: true; the input reads as it did. -/
def pruneOneSpec : ChangeSpec := { name := "pruneOne", fn := fun _ => fun
  | [d1, d2, d3] => { results := [.lit (.bool true)], args := [d1, d2, d3] }
  | _ => none }
def pruneOneRow : OpenClaim := { program := "ytgfkalhpefjenaadoor", sum := "ee584ef452d4d578be9ace225494841fb58de94379da4fbe2b65ccb21daf8ab1", func := "witnessbox/witlaw4.PruneOne", spec := "pruneOne", inPlace := ["internal/reflectlite.ValueOf", "(internal/reflectlite.Value).Type", "(internal/reflectlite.Value).IsNil", "internal/reflectlite.TypeOf", "(internal/reflectlite.Value).Elem", "(internal/reflectlite.Value).Set"], unfollowed := true, recurses := true, named := ["errors.errorType"], apart := false, laid := [("errors.errorType", laid_errors_errorType)] }
def PruneOneSaid : Prop := pruneOneRow.holds Tryd.pinned (OpenSpec.ofChange pruneOneSpec)

/-- ITS FALSE NEIGHBOUR: 'it returns false'. Refute it at one input. -/
def pruneOneWrong : ChangeSpec := { name := "pruneOne", fn := fun _ => fun
  | [d1, d2, d3] => { results := [.lit (.bool false)], args := [d1, d2, d3] }
  | _ => none }
def PruneOneWrongFalsely : Prop := pruneOneRow.holds Tryd.pinned (OpenSpec.ofChange pruneOneWrong)

/- THE SECOND FORM. 'bulk': how many values and letters a reading holds, each counted each time it is reached (what is shared counts as often as it is met; a slice's spare places count too). A statement '..UptoSaid' is the law's where the arguments, and the package variables that the reading takes, are together of bulk at most 1048576: NARROWER than '..Said'. Prove '..Said' where nothing that the law and all that it calls make is longer than what came in: it says more and counts as full. Else prove '..UptoSaid'. A law counts once. -/
mutual
def uptoBulk {H : Type} : DataW H → Nat
  | .lit (.string bytes) => bytes.length + 1
  | .lit _ => 1
  | .nil => 1
  | .ptr d => uptoBulk d + 1
  | .slice elems spare => uptoBulkAll elems + uptoBulkAll spare + 1
  | .agg parts => uptoBulkAll parts + 1
  | .iface _ d => uptoBulk d + 1
  | .map entries => uptoBulkEntries entries + 1
  | .held _ => 1
def uptoBulkAll {H : Type} : List (DataW H) → Nat
  | [] => 0
  | d :: r => uptoBulk d + uptoBulkAll r
def uptoBulkEntries {H : Type} : List (Lit × DataW H) → Nat
  | [] => 0
  | x :: r => uptoBulkEntry x + uptoBulkEntries r
def uptoBulkEntry {H : Type} : Lit × DataW H → Nat
  | (.string bytes, d) => bytes.length + uptoBulk d + 1
  | (_, d) => uptoBulk d + 1
 end
def uptoSmall : (H : Type) → List (DataW H) → Bool := fun _ ds => decide (uptoBulkAll ds ≤ 1048576)
def OpenSpec.upto (s : _root_.Go.ChangeSpec) : _root_.Go.OpenSpec := { _root_.Go.OpenSpec.ofChange s with cond := some uptoSmall }

/-- 'witlaw4.TileMany', WHERE WHAT IT READS IS OF BULK AT MOST 1048576: true; the input reads as it did. -/
def tileManyUptoRow : OpenClaim := { program := "ytgfkalhpefjenaadoor", sum := "ee584ef452d4d578be9ace225494841fb58de94379da4fbe2b65ccb21daf8ab1", func := "witnessbox/witlaw4.TileMany", spec := "tileMany", inPlace := ["internal/reflectlite.ValueOf", "(internal/reflectlite.Value).Type", "(internal/reflectlite.Value).IsNil", "internal/reflectlite.TypeOf", "(internal/reflectlite.Value).Elem", "(internal/reflectlite.Value).Set"], unfollowed := true, recurses := true, named := ["errors.errorType"], apart := false, laid := [("errors.errorType", laid_errors_errorType)], narrowed := true }
def TileManyUptoSaid : Prop := tileManyUptoRow.holds Tryd.pinned (OpenSpec.upto tileManySpec)

/-- 'witlaw4.PeaksFull', WHERE WHAT IT READS IS OF BULK AT MOST 1048576: true; the input reads as it did. -/
def peaksFullUptoRow : OpenClaim := { program := "ytgfkalhpefjenaadoor", sum := "ee584ef452d4d578be9ace225494841fb58de94379da4fbe2b65ccb21daf8ab1", func := "witnessbox/witlaw4.PeaksFull", spec := "peaksFull", inPlace := ["internal/reflectlite.ValueOf", "(internal/reflectlite.Value).Type", "(internal/reflectlite.Value).IsNil", "internal/reflectlite.TypeOf", "(internal/reflectlite.Value).Elem", "(internal/reflectlite.Value).Set"], unfollowed := true, recurses := true, named := ["errors.errorType"], apart := false, laid := [("errors.errorType", laid_errors_errorType)], narrowed := true }
def PeaksFullUptoSaid : Prop := peaksFullUptoRow.holds Tryd.pinned (OpenSpec.upto peaksFullSpec)

/-- 'witlaw4.ProofLong', WHERE WHAT IT READS IS OF BULK AT MOST 1048576: true; the input reads as it did. -/
def proofLongUptoRow : OpenClaim := { program := "ytgfkalhpefjenaadoor", sum := "ee584ef452d4d578be9ace225494841fb58de94379da4fbe2b65ccb21daf8ab1", func := "witnessbox/witlaw4.ProofLong", spec := "proofLong", inPlace := ["internal/reflectlite.ValueOf", "(internal/reflectlite.Value).Type", "(internal/reflectlite.Value).IsNil", "internal/reflectlite.TypeOf", "(internal/reflectlite.Value).Elem", "(internal/reflectlite.Value).Set"], unfollowed := true, recurses := true, named := ["errors.errorType"], apart := false, laid := [("errors.errorType", laid_errors_errorType)], narrowed := true }
def ProofLongUptoSaid : Prop := proofLongUptoRow.holds Tryd.pinned (OpenSpec.upto proofLongSpec)

/-- 'witlaw4.GrowSame', WHERE WHAT IT READS IS OF BULK AT MOST 1048576: true; the input reads as it did. -/
def growSameUptoRow : OpenClaim := { program := "ytgfkalhpefjenaadoor", sum := "ee584ef452d4d578be9ace225494841fb58de94379da4fbe2b65ccb21daf8ab1", func := "witnessbox/witlaw4.GrowSame", spec := "growSame", inPlace := ["internal/reflectlite.ValueOf", "(internal/reflectlite.Value).Type", "(internal/reflectlite.Value).IsNil", "internal/reflectlite.TypeOf", "(internal/reflectlite.Value).Elem", "(internal/reflectlite.Value).Set"], unfollowed := true, recurses := true, named := ["errors.errorType"], apart := false, laid := [("errors.errorType", laid_errors_errorType)], narrowed := true }
def GrowSameUptoSaid : Prop := growSameUptoRow.holds Tryd.pinned (OpenSpec.upto growSameSpec)

/-- 'witlaw1.PeaksTell', WHERE WHAT IT READS IS OF BULK AT MOST 1048576: true; the input reads as it did. -/
def peaksTellUptoRow : OpenClaim := { program := "ytgfkalhpefjenaadoor", sum := "ee584ef452d4d578be9ace225494841fb58de94379da4fbe2b65ccb21daf8ab1", func := "witnessbox/witlaw1.PeaksTell", spec := "peaksTell", inPlace := ["internal/reflectlite.ValueOf", "(internal/reflectlite.Value).Type", "(internal/reflectlite.Value).IsNil", "internal/reflectlite.TypeOf", "(internal/reflectlite.Value).Elem", "(internal/reflectlite.Value).Set"], unfollowed := true, recurses := true, named := ["errors.errorType"], apart := false, laid := [("errors.errorType", laid_errors_errorType)], narrowed := true }
def PeaksTellUptoSaid : Prop := peaksTellUptoRow.holds Tryd.pinned (OpenSpec.upto peaksTellSpec)

/-- 'witlaw1.EntryTells', WHERE WHAT IT READS IS OF BULK AT MOST 1048576: true; the input reads as it did. -/
def entryTellsUptoRow : OpenClaim := { program := "ytgfkalhpefjenaadoor", sum := "ee584ef452d4d578be9ace225494841fb58de94379da4fbe2b65ccb21daf8ab1", func := "witnessbox/witlaw1.EntryTells", spec := "entryTells", inPlace := ["internal/reflectlite.ValueOf", "(internal/reflectlite.Value).Type", "(internal/reflectlite.Value).IsNil", "internal/reflectlite.TypeOf", "(internal/reflectlite.Value).Elem", "(internal/reflectlite.Value).Set"], unfollowed := true, recurses := true, named := ["errors.errorType"], apart := false, laid := [("errors.errorType", laid_errors_errorType)], narrowed := true }
def EntryTellsUptoSaid : Prop := entryTellsUptoRow.holds Tryd.pinned (OpenSpec.upto entryTellsSpec)

/-- 'witlaw1.TileTells', WHERE WHAT IT READS IS OF BULK AT MOST 1048576: true; the input reads as it did. -/
def tileTellsUptoRow : OpenClaim := { program := "ytgfkalhpefjenaadoor", sum := "ee584ef452d4d578be9ace225494841fb58de94379da4fbe2b65ccb21daf8ab1", func := "witnessbox/witlaw1.TileTells", spec := "tileTells", inPlace := ["internal/reflectlite.ValueOf", "(internal/reflectlite.Value).Type", "(internal/reflectlite.Value).IsNil", "internal/reflectlite.TypeOf", "(internal/reflectlite.Value).Elem", "(internal/reflectlite.Value).Set"], unfollowed := true, recurses := true, named := ["errors.errorType"], apart := false, laid := [("errors.errorType", laid_errors_errorType)], narrowed := true }
def TileTellsUptoSaid : Prop := tileTellsUptoRow.holds Tryd.pinned (OpenSpec.upto tileTellsSpec)

/-- 'witlaw1.ProofTells', WHERE WHAT IT READS IS OF BULK AT MOST 1048576: true; the input reads as it did. -/
def proofTellsUptoRow : OpenClaim := { program := "ytgfkalhpefjenaadoor", sum := "ee584ef452d4d578be9ace225494841fb58de94379da4fbe2b65ccb21daf8ab1", func := "witnessbox/witlaw1.ProofTells", spec := "proofTells", inPlace := ["internal/reflectlite.ValueOf", "(internal/reflectlite.Value).Type", "(internal/reflectlite.Value).IsNil", "internal/reflectlite.TypeOf", "(internal/reflectlite.Value).Elem", "(internal/reflectlite.Value).Set"], unfollowed := true, recurses := true, named := ["errors.errorType"], apart := false, laid := [("errors.errorType", laid_errors_errorType)], narrowed := true }
def ProofTellsUptoSaid : Prop := proofTellsUptoRow.holds Tryd.pinned (OpenSpec.upto proofTellsSpec)

/-- 'witlaw1.GrowTells', WHERE WHAT IT READS IS OF BULK AT MOST 1048576: true; the input reads as it did. -/
def growTellsUptoRow : OpenClaim := { program := "ytgfkalhpefjenaadoor", sum := "ee584ef452d4d578be9ace225494841fb58de94379da4fbe2b65ccb21daf8ab1", func := "witnessbox/witlaw1.GrowTells", spec := "growTells", inPlace := ["internal/reflectlite.ValueOf", "(internal/reflectlite.Value).Type", "(internal/reflectlite.Value).IsNil", "internal/reflectlite.TypeOf", "(internal/reflectlite.Value).Elem", "(internal/reflectlite.Value).Set"], unfollowed := true, recurses := true, named := ["errors.errorType"], apart := false, laid := [("errors.errorType", laid_errors_errorType)], narrowed := true }
def GrowTellsUptoSaid : Prop := growTellsUptoRow.holds Tryd.pinned (OpenSpec.upto growTellsSpec)

/-- 'witlaw1.TreeTells', WHERE WHAT IT READS IS OF BULK AT MOST 1048576: true; the input reads as it did. -/
def treeTellsUptoRow : OpenClaim := { program := "ytgfkalhpefjenaadoor", sum := "ee584ef452d4d578be9ace225494841fb58de94379da4fbe2b65ccb21daf8ab1", func := "witnessbox/witlaw1.TreeTells", spec := "treeTells", inPlace := ["internal/reflectlite.ValueOf", "(internal/reflectlite.Value).Type", "(internal/reflectlite.Value).IsNil", "internal/reflectlite.TypeOf", "(internal/reflectlite.Value).Elem", "(internal/reflectlite.Value).Set"], unfollowed := true, recurses := true, named := ["errors.errorType"], apart := false, laid := [("errors.errorType", laid_errors_errorType)], narrowed := true }
def TreeTellsUptoSaid : Prop := treeTellsUptoRow.holds Tryd.pinned (OpenSpec.upto treeTellsSpec)

/-- 'witlaw1.TreeClash', WHERE WHAT IT READS IS OF BULK AT MOST 1048576: true; the input reads as it did. -/
def treeClashUptoRow : OpenClaim := { program := "ytgfkalhpefjenaadoor", sum := "ee584ef452d4d578be9ace225494841fb58de94379da4fbe2b65ccb21daf8ab1", func := "witnessbox/witlaw1.TreeClash", spec := "treeClash", inPlace := ["internal/reflectlite.ValueOf", "(internal/reflectlite.Value).Type", "(internal/reflectlite.Value).IsNil", "internal/reflectlite.TypeOf", "(internal/reflectlite.Value).Elem", "(internal/reflectlite.Value).Set"], unfollowed := true, recurses := true, named := ["errors.errorType"], apart := false, laid := [("errors.errorType", laid_errors_errorType)], narrowed := true }
def TreeClashUptoSaid : Prop := treeClashUptoRow.holds Tryd.pinned (OpenSpec.upto treeClashSpec)

/-- 'witlaw1.GrowProves', WHERE WHAT IT READS IS OF BULK AT MOST 1048576: true; the input reads as it did. -/
def growProvesUptoRow : OpenClaim := { program := "ytgfkalhpefjenaadoor", sum := "ee584ef452d4d578be9ace225494841fb58de94379da4fbe2b65ccb21daf8ab1", func := "witnessbox/witlaw1.GrowProves", spec := "growProves", inPlace := ["internal/reflectlite.ValueOf", "(internal/reflectlite.Value).Type", "(internal/reflectlite.Value).IsNil", "internal/reflectlite.TypeOf", "(internal/reflectlite.Value).Elem", "(internal/reflectlite.Value).Set"], unfollowed := true, recurses := true, named := ["errors.errorType"], apart := false, laid := [("errors.errorType", laid_errors_errorType)], narrowed := true }
def GrowProvesUptoSaid : Prop := growProvesUptoRow.holds Tryd.pinned (OpenSpec.upto growProvesSpec)

/-- 'witlaw3.PrunePlays', WHERE WHAT IT READS IS OF BULK AT MOST 1048576: true; the input reads as it did. -/
def prunePlaysUptoRow : OpenClaim := { program := "ytgfkalhpefjenaadoor", sum := "ee584ef452d4d578be9ace225494841fb58de94379da4fbe2b65ccb21daf8ab1", func := "witnessbox/witlaw3.PrunePlays", spec := "prunePlays", inPlace := ["internal/reflectlite.ValueOf", "(internal/reflectlite.Value).Type", "(internal/reflectlite.Value).IsNil", "internal/reflectlite.TypeOf", "(internal/reflectlite.Value).Elem", "(internal/reflectlite.Value).Set"], unfollowed := true, recurses := true, named := ["errors.errorType"], apart := false, laid := [("errors.errorType", laid_errors_errorType)], narrowed := true }
def PrunePlaysUptoSaid : Prop := prunePlaysUptoRow.holds Tryd.pinned (OpenSpec.upto prunePlaysSpec)

/-- 'witlaw3.BatchTells', WHERE WHAT IT READS IS OF BULK AT MOST 1048576: true; the input reads as it did. -/
def batchTellsUptoRow : OpenClaim := { program := "ytgfkalhpefjenaadoor", sum := "ee584ef452d4d578be9ace225494841fb58de94379da4fbe2b65ccb21daf8ab1", func := "witnessbox/witlaw3.BatchTells", spec := "batchTells", inPlace := ["internal/reflectlite.ValueOf", "(internal/reflectlite.Value).Type", "(internal/reflectlite.Value).IsNil", "internal/reflectlite.TypeOf", "(internal/reflectlite.Value).Elem", "(internal/reflectlite.Value).Set"], unfollowed := true, recurses := true, named := ["errors.errorType"], apart := false, laid := [("errors.errorType", laid_errors_errorType)], narrowed := true }
def BatchTellsUptoSaid : Prop := batchTellsUptoRow.holds Tryd.pinned (OpenSpec.upto batchTellsSpec)

/-- 'witlaw4.PruneOne', WHERE WHAT IT READS IS OF BULK AT MOST 1048576: true; the input reads as it did. -/
def pruneOneUptoRow : OpenClaim := { program := "ytgfkalhpefjenaadoor", sum := "ee584ef452d4d578be9ace225494841fb58de94379da4fbe2b65ccb21daf8ab1", func := "witnessbox/witlaw4.PruneOne", spec := "pruneOne", inPlace := ["internal/reflectlite.ValueOf", "(internal/reflectlite.Value).Type", "(internal/reflectlite.Value).IsNil", "internal/reflectlite.TypeOf", "(internal/reflectlite.Value).Elem", "(internal/reflectlite.Value).Set"], unfollowed := true, recurses := true, named := ["errors.errorType"], apart := false, laid := [("errors.errorType", laid_errors_errorType)], narrowed := true }
def PruneOneUptoSaid : Prop := pruneOneUptoRow.holds Tryd.pinned (OpenSpec.upto pruneOneSpec)

end Rows
end Go.Proofs.YtgfkalhpefjenaaDoor
