/-
  No cell of these rows narrows 'for every input' (looked for: loops, veiled, ifaces, maps, wideKeys, modest, calm, conditions, laid).
  DERIVED. THE GIVEN ROWS OF THIS SEAT. 13 by the template 'for every input the law returns true; each argument reads behind the call as it read before'; 0 by the template 'total and deterministic' (their statements: YtcpnhmjibihpkaaTotals.lean).
  GIVEN WITH THE SEED: the statements are not yours to turn. If you find one false, say at which input.
  Laid BY PROGRAM, IN A SANDBOX (cutbox-rows.mjs): the forced cells as the released guide's own fill.sh prints them over the translation 9190bbdb2e097260… (all of the seat's roots in one cut). By AI agents, Wed Nov 11 2026. No macro, syntax, notation, axiom, sorry.
-/
import Derived.Test.YtcpnhmjibihpkaaChecked
import GoSem.Claim
import GoSem.ClaimJoined
import GoSem.ClaimMapViews
import Derived.JoinedTies
import Derived.KernelRfl
namespace Go.Proofs.Ytcpnhmjibihpkaa
/- THE CELL 'sum', in the pinned program and in every row, IS THE sha256 OF THE DUMP (.gsa) THAT YtcpnhmjibihpkaaProg.lean LOADS. Nothing in Lean hashes anything: it is a label: what it is worth is what the hold of that sum in a sandbox is worth. -/
noncomputable def Try.pinned : Pinned := { name := "ytcpnhmjibihpkaa", sum := "9190bbdb2e097260fc876e48529d947eb13fac898d42ef5a58bf597eabf1bd6f", checked := Try.checked }
namespace Rows
def none {H : Type} : Left H := { results := [], args := [] }

/-- 'witlaw4.MixParts': WHATEVER THE INPUT: true; the input reads as it did. -/
def mixPartsSpec : ChangeSpec := { name := "mixParts", fn := fun _ => fun
  | [d1, d2] => { results := [.lit (.bool true)], args := [d1, d2] }
  | _ => none }
def mixPartsRow : OpenClaim := { program := "ytcpnhmjibihpkaa", sum := "9190bbdb2e097260fc876e48529d947eb13fac898d42ef5a58bf597eabf1bd6f", func := "witnessbox/witlaw4.MixParts", spec := "mixParts", apart := false }
def MixPartsSaid : Prop := mixPartsRow.holds Try.pinned (OpenSpec.ofChange mixPartsSpec)

/-- ITS FALSE NEIGHBOUR: 'it returns false'. Refute it at one input. -/
def mixPartsWrong : ChangeSpec := { name := "mixParts", fn := fun _ => fun
  | [d1, d2] => { results := [.lit (.bool false)], args := [d1, d2] }
  | _ => none }
def MixPartsWrongFalsely : Prop := mixPartsRow.holds Try.pinned (OpenSpec.ofChange mixPartsWrong)

/-- 'witlaw4.HeadBetter': WHATEVER THE INPUT: true; the input reads as it did. -/
def headBetterSpec : ChangeSpec := { name := "headBetter", fn := fun _ => fun
  | [d1, d2, d3] => { results := [.lit (.bool true)], args := [d1, d2, d3] }
  | _ => none }
def headBetterRow : OpenClaim := { program := "ytcpnhmjibihpkaa", sum := "9190bbdb2e097260fc876e48529d947eb13fac898d42ef5a58bf597eabf1bd6f", func := "witnessbox/witlaw4.HeadBetter", spec := "headBetter", apart := false }
def HeadBetterSaid : Prop := headBetterRow.holds Try.pinned (OpenSpec.ofChange headBetterSpec)

/-- ITS FALSE NEIGHBOUR: 'it returns false'. Refute it at one input. -/
def headBetterWrong : ChangeSpec := { name := "headBetter", fn := fun _ => fun
  | [d1, d2, d3] => { results := [.lit (.bool false)], args := [d1, d2, d3] }
  | _ => none }
def HeadBetterWrongFalsely : Prop := headBetterRow.holds Try.pinned (OpenSpec.ofChange headBetterWrong)

/-- 'witlaw4.EntryLong': WHATEVER THE INPUT: true; the input reads as it did. -/
def entryLongSpec : ChangeSpec := { name := "entryLong", fn := fun _ => fun
  | [d] => { results := [.lit (.bool true)], args := [d] }
  | _ => none }
def entryLongRow : OpenClaim := { program := "ytcpnhmjibihpkaa", sum := "9190bbdb2e097260fc876e48529d947eb13fac898d42ef5a58bf597eabf1bd6f", func := "witnessbox/witlaw4.EntryLong", spec := "entryLong", apart := false }
def EntryLongSaid : Prop := entryLongRow.holds Try.pinned (OpenSpec.ofChange entryLongSpec)

/-- ITS FALSE NEIGHBOUR: 'it returns false'. Refute it at one input. -/
def entryLongWrong : ChangeSpec := { name := "entryLong", fn := fun _ => fun
  | [d] => { results := [.lit (.bool false)], args := [d] }
  | _ => none }
def EntryLongWrongFalsely : Prop := entryLongRow.holds Try.pinned (OpenSpec.ofChange entryLongWrong)

/-- 'witlaw1.Names': WHATEVER THE INPUT: true; the input reads as it did. -/
def namesSpec : ChangeSpec := { name := "names", fn := fun _ => fun
  | [] => { results := [.lit (.bool true)], args := [] }
  | _ => none }
def namesRow : OpenClaim := { program := "ytcpnhmjibihpkaa", sum := "9190bbdb2e097260fc876e48529d947eb13fac898d42ef5a58bf597eabf1bd6f", func := "witnessbox/witlaw1.Names", spec := "names", apart := false }
def NamesSaid : Prop := namesRow.holds Try.pinned (OpenSpec.ofChange namesSpec)

/-- ITS FALSE NEIGHBOUR: 'it returns false'. Refute it at one input. -/
def namesWrong : ChangeSpec := { name := "names", fn := fun _ => fun
  | [] => { results := [.lit (.bool false)], args := [] }
  | _ => none }
def NamesWrongFalsely : Prop := namesRow.holds Try.pinned (OpenSpec.ofChange namesWrong)

/-- 'witlaw1.EntryBack': WHATEVER THE INPUT: true; the input reads as it did. -/
def entryBackSpec : ChangeSpec := { name := "entryBack", fn := fun _ => fun
  | [d1, d2, d3] => { results := [.lit (.bool true)], args := [d1, d2, d3] }
  | _ => none }
def entryBackRow : OpenClaim := { program := "ytcpnhmjibihpkaa", sum := "9190bbdb2e097260fc876e48529d947eb13fac898d42ef5a58bf597eabf1bd6f", func := "witnessbox/witlaw1.EntryBack", spec := "entryBack", apart := false }
def EntryBackSaid : Prop := entryBackRow.holds Try.pinned (OpenSpec.ofChange entryBackSpec)

/-- ITS FALSE NEIGHBOUR: 'it returns false'. Refute it at one input. -/
def entryBackWrong : ChangeSpec := { name := "entryBack", fn := fun _ => fun
  | [d1, d2, d3] => { results := [.lit (.bool false)], args := [d1, d2, d3] }
  | _ => none }
def EntryBackWrongFalsely : Prop := entryBackRow.holds Try.pinned (OpenSpec.ofChange entryBackWrong)

/-- 'witlaw4.TreeHalves': WHATEVER THE INPUT: true; the input reads as it did. -/
def treeHalvesSpec : ChangeSpec := { name := "treeHalves", fn := fun _ => fun
  | [d] => { results := [.lit (.bool true)], args := [d] }
  | _ => none }
def treeHalvesRow : OpenClaim := { program := "ytcpnhmjibihpkaa", sum := "9190bbdb2e097260fc876e48529d947eb13fac898d42ef5a58bf597eabf1bd6f", func := "witnessbox/witlaw4.TreeHalves", spec := "treeHalves", unfollowed := true, recurses := true, apart := false }
def TreeHalvesSaid : Prop := treeHalvesRow.holds Try.pinned (OpenSpec.ofChange treeHalvesSpec)

/-- ITS FALSE NEIGHBOUR: 'it returns false'. Refute it at one input. -/
def treeHalvesWrong : ChangeSpec := { name := "treeHalves", fn := fun _ => fun
  | [d] => { results := [.lit (.bool false)], args := [d] }
  | _ => none }
def TreeHalvesWrongFalsely : Prop := treeHalvesRow.holds Try.pinned (OpenSpec.ofChange treeHalvesWrong)

/-- 'witlaw4.AuditCounts': WHATEVER THE INPUT: true; the input reads as it did. -/
def auditCountsSpec : ChangeSpec := { name := "auditCounts", fn := fun _ => fun
  | [d] => { results := [.lit (.bool true)], args := [d] }
  | _ => none }
def auditCountsRow : OpenClaim := { program := "ytcpnhmjibihpkaa", sum := "9190bbdb2e097260fc876e48529d947eb13fac898d42ef5a58bf597eabf1bd6f", func := "witnessbox/witlaw4.AuditCounts", spec := "auditCounts", recurses := true, apart := false }
def AuditCountsSaid : Prop := auditCountsRow.holds Try.pinned (OpenSpec.ofChange auditCountsSpec)

/-- ITS FALSE NEIGHBOUR: 'it returns false'. Refute it at one input. -/
def auditCountsWrong : ChangeSpec := { name := "auditCounts", fn := fun _ => fun
  | [d] => { results := [.lit (.bool false)], args := [d] }
  | _ => none }
def AuditCountsWrongFalsely : Prop := auditCountsRow.holds Try.pinned (OpenSpec.ofChange auditCountsWrong)

/-- 'witlaw1.ProofProves': WHATEVER THE INPUT: true; the input reads as it did. -/
def proofProvesSpec : ChangeSpec := { name := "proofProves", fn := fun _ => fun
  | [d1, d2, d3, d4, d5, d6] => { results := [.lit (.bool true)], args := [d1, d2, d3, d4, d5, d6] }
  | _ => none }
def proofProvesRow : OpenClaim := { program := "ytcpnhmjibihpkaa", sum := "9190bbdb2e097260fc876e48529d947eb13fac898d42ef5a58bf597eabf1bd6f", func := "witnessbox/witlaw1.ProofProves", spec := "proofProves", unfollowed := true, recurses := true, apart := false }
def ProofProvesSaid : Prop := proofProvesRow.holds Try.pinned (OpenSpec.ofChange proofProvesSpec)

/-- ITS FALSE NEIGHBOUR: 'it returns false'. Refute it at one input. -/
def proofProvesWrong : ChangeSpec := { name := "proofProves", fn := fun _ => fun
  | [d1, d2, d3, d4, d5, d6] => { results := [.lit (.bool false)], args := [d1, d2, d3, d4, d5, d6] }
  | _ => none }
def ProofProvesWrongFalsely : Prop := proofProvesRow.holds Try.pinned (OpenSpec.ofChange proofProvesWrong)

/-- 'witlaw1.TileRoot': WHATEVER THE INPUT: true; the input reads as it did. -/
def tileRootSpec : ChangeSpec := { name := "tileRoot", fn := fun _ => fun
  | [d1, d2, d3] => { results := [.lit (.bool true)], args := [d1, d2, d3] }
  | _ => none }
def tileRootRow : OpenClaim := { program := "ytcpnhmjibihpkaa", sum := "9190bbdb2e097260fc876e48529d947eb13fac898d42ef5a58bf597eabf1bd6f", func := "witnessbox/witlaw1.TileRoot", spec := "tileRoot", unfollowed := true, recurses := true, apart := false }
def TileRootSaid : Prop := tileRootRow.holds Try.pinned (OpenSpec.ofChange tileRootSpec)

/-- ITS FALSE NEIGHBOUR: 'it returns false'. Refute it at one input. -/
def tileRootWrong : ChangeSpec := { name := "tileRoot", fn := fun _ => fun
  | [d1, d2, d3] => { results := [.lit (.bool false)], args := [d1, d2, d3] }
  | _ => none }
def TileRootWrongFalsely : Prop := tileRootRow.holds Try.pinned (OpenSpec.ofChange tileRootWrong)

/-- 'witlaw4.BatchAll': WHATEVER THE INPUT: true; the input reads as it did. -/
def batchAllSpec : ChangeSpec := { name := "batchAll", fn := fun _ => fun
  | [d] => { results := [.lit (.bool true)], args := [d] }
  | _ => none }
def batchAllRow : OpenClaim := { program := "ytcpnhmjibihpkaa", sum := "9190bbdb2e097260fc876e48529d947eb13fac898d42ef5a58bf597eabf1bd6f", func := "witnessbox/witlaw4.BatchAll", spec := "batchAll", unfollowed := true, recurses := true, apart := false }
def BatchAllSaid : Prop := batchAllRow.holds Try.pinned (OpenSpec.ofChange batchAllSpec)

/-- ITS FALSE NEIGHBOUR: 'it returns false'. Refute it at one input. -/
def batchAllWrong : ChangeSpec := { name := "batchAll", fn := fun _ => fun
  | [d] => { results := [.lit (.bool false)], args := [d] }
  | _ => none }
def BatchAllWrongFalsely : Prop := batchAllRow.holds Try.pinned (OpenSpec.ofChange batchAllWrong)

/-- 'witlaw1.PeaksGrow': WHATEVER THE INPUT: true; the input reads as it did. -/
def peaksGrowSpec : ChangeSpec := { name := "peaksGrow", fn := fun _ => fun
  | [d1, d2] => { results := [.lit (.bool true)], args := [d1, d2] }
  | _ => none }
def peaksGrowRow : OpenClaim := { program := "ytcpnhmjibihpkaa", sum := "9190bbdb2e097260fc876e48529d947eb13fac898d42ef5a58bf597eabf1bd6f", func := "witnessbox/witlaw1.PeaksGrow", spec := "peaksGrow", unfollowed := true, recurses := true, apart := false }
def PeaksGrowSaid : Prop := peaksGrowRow.holds Try.pinned (OpenSpec.ofChange peaksGrowSpec)

/-- ITS FALSE NEIGHBOUR: 'it returns false'. Refute it at one input. -/
def peaksGrowWrong : ChangeSpec := { name := "peaksGrow", fn := fun _ => fun
  | [d1, d2] => { results := [.lit (.bool false)], args := [d1, d2] }
  | _ => none }
def PeaksGrowWrongFalsely : Prop := peaksGrowRow.holds Try.pinned (OpenSpec.ofChange peaksGrowWrong)

/-- 'witlaw3.PruneKnows': WHATEVER THE INPUT: true; the input reads as it did. -/
def pruneKnowsSpec : ChangeSpec := { name := "pruneKnows", fn := fun _ => fun
  | [d1, d2] => { results := [.lit (.bool true)], args := [d1, d2] }
  | _ => none }
def pruneKnowsRow : OpenClaim := { program := "ytcpnhmjibihpkaa", sum := "9190bbdb2e097260fc876e48529d947eb13fac898d42ef5a58bf597eabf1bd6f", func := "witnessbox/witlaw3.PruneKnows", spec := "pruneKnows", unfollowed := true, recurses := true, apart := false }
def PruneKnowsSaid : Prop := pruneKnowsRow.holds Try.pinned (OpenSpec.ofChange pruneKnowsSpec)

/-- ITS FALSE NEIGHBOUR: 'it returns false'. Refute it at one input. -/
def pruneKnowsWrong : ChangeSpec := { name := "pruneKnows", fn := fun _ => fun
  | [d1, d2] => { results := [.lit (.bool false)], args := [d1, d2] }
  | _ => none }
def PruneKnowsWrongFalsely : Prop := pruneKnowsRow.holds Try.pinned (OpenSpec.ofChange pruneKnowsWrong)

/-- 'witlaw3.BatchProves': WHATEVER THE INPUT: true; the input reads as it did. -/
def batchProvesSpec : ChangeSpec := { name := "batchProves", fn := fun _ => fun
  | [d1, d2] => { results := [.lit (.bool true)], args := [d1, d2] }
  | _ => none }
def batchProvesRow : OpenClaim := { program := "ytcpnhmjibihpkaa", sum := "9190bbdb2e097260fc876e48529d947eb13fac898d42ef5a58bf597eabf1bd6f", func := "witnessbox/witlaw3.BatchProves", spec := "batchProves", unfollowed := true, recurses := true, apart := false }
def BatchProvesSaid : Prop := batchProvesRow.holds Try.pinned (OpenSpec.ofChange batchProvesSpec)

/-- ITS FALSE NEIGHBOUR: 'it returns false'. Refute it at one input. -/
def batchProvesWrong : ChangeSpec := { name := "batchProves", fn := fun _ => fun
  | [d1, d2] => { results := [.lit (.bool false)], args := [d1, d2] }
  | _ => none }
def BatchProvesWrongFalsely : Prop := batchProvesRow.holds Try.pinned (OpenSpec.ofChange batchProvesWrong)

/- THE SECOND FORM. 'bulk': how many values and letters a reading holds, each counted each time it is reached (what is shared counts as often as it is met; a slice's spare places count too). A statement '..UptoSaid' is the law's where the arguments, and the package variables that the reading takes, are together of bulk at most 1048576: NARROWER than '..Said'. Prove '..Said' where nothing that the law and all that it calls make is longer than what came in: it says more and counts as full. Else prove '..UptoSaid'. A law counts once. -/
mutual
def uptoBulk {H : Type} : DataW H → Nat
  | .lit (.string bytes) => bytes.length + 1
  | .lit _ => 1
  | .nil => 1
  | .ptr d => uptoBulk d + 1
  | .slice elems spare => uptoBulkAll elems + uptoBulkAll spare + 1
  | .agg parts => uptoBulkAll parts + 1
  | .iface _ d => uptoBulk d + 1
  | .map entries => uptoBulkEntries entries + 1
  | .held _ => 1
def uptoBulkAll {H : Type} : List (DataW H) → Nat
  | [] => 0
  | d :: r => uptoBulk d + uptoBulkAll r
def uptoBulkEntries {H : Type} : List (Lit × DataW H) → Nat
  | [] => 0
  | x :: r => uptoBulkEntry x + uptoBulkEntries r
def uptoBulkEntry {H : Type} : Lit × DataW H → Nat
  | (.string bytes, d) => bytes.length + uptoBulk d + 1
  | (_, d) => uptoBulk d + 1
 end
def uptoSmall : (H : Type) → List (DataW H) → Bool := fun _ ds => decide (uptoBulkAll ds ≤ 1048576)
def OpenSpec.upto (s : _root_.Go.ChangeSpec) : _root_.Go.OpenSpec := { _root_.Go.OpenSpec.ofChange s with cond := some uptoSmall }

/-- 'witlaw4.MixParts', WHERE WHAT IT READS IS OF BULK AT MOST 1048576: true; the input reads as it did. -/
def mixPartsUptoRow : OpenClaim := { program := "ytcpnhmjibihpkaa", sum := "9190bbdb2e097260fc876e48529d947eb13fac898d42ef5a58bf597eabf1bd6f", func := "witnessbox/witlaw4.MixParts", spec := "mixParts", apart := false, narrowed := true }
def MixPartsUptoSaid : Prop := mixPartsUptoRow.holds Try.pinned (OpenSpec.upto mixPartsSpec)

/-- 'witlaw4.HeadBetter', WHERE WHAT IT READS IS OF BULK AT MOST 1048576: true; the input reads as it did. -/
def headBetterUptoRow : OpenClaim := { program := "ytcpnhmjibihpkaa", sum := "9190bbdb2e097260fc876e48529d947eb13fac898d42ef5a58bf597eabf1bd6f", func := "witnessbox/witlaw4.HeadBetter", spec := "headBetter", apart := false, narrowed := true }
def HeadBetterUptoSaid : Prop := headBetterUptoRow.holds Try.pinned (OpenSpec.upto headBetterSpec)

/-- 'witlaw4.EntryLong', WHERE WHAT IT READS IS OF BULK AT MOST 1048576: true; the input reads as it did. -/
def entryLongUptoRow : OpenClaim := { program := "ytcpnhmjibihpkaa", sum := "9190bbdb2e097260fc876e48529d947eb13fac898d42ef5a58bf597eabf1bd6f", func := "witnessbox/witlaw4.EntryLong", spec := "entryLong", apart := false, narrowed := true }
def EntryLongUptoSaid : Prop := entryLongUptoRow.holds Try.pinned (OpenSpec.upto entryLongSpec)

/-- 'witlaw1.Names', WHERE WHAT IT READS IS OF BULK AT MOST 1048576: true; the input reads as it did. -/
def namesUptoRow : OpenClaim := { program := "ytcpnhmjibihpkaa", sum := "9190bbdb2e097260fc876e48529d947eb13fac898d42ef5a58bf597eabf1bd6f", func := "witnessbox/witlaw1.Names", spec := "names", apart := false, narrowed := true }
def NamesUptoSaid : Prop := namesUptoRow.holds Try.pinned (OpenSpec.upto namesSpec)

/-- 'witlaw1.EntryBack', WHERE WHAT IT READS IS OF BULK AT MOST 1048576: true; the input reads as it did. -/
def entryBackUptoRow : OpenClaim := { program := "ytcpnhmjibihpkaa", sum := "9190bbdb2e097260fc876e48529d947eb13fac898d42ef5a58bf597eabf1bd6f", func := "witnessbox/witlaw1.EntryBack", spec := "entryBack", apart := false, narrowed := true }
def EntryBackUptoSaid : Prop := entryBackUptoRow.holds Try.pinned (OpenSpec.upto entryBackSpec)

/-- 'witlaw4.TreeHalves', WHERE WHAT IT READS IS OF BULK AT MOST 1048576: true; the input reads as it did. -/
def treeHalvesUptoRow : OpenClaim := { program := "ytcpnhmjibihpkaa", sum := "9190bbdb2e097260fc876e48529d947eb13fac898d42ef5a58bf597eabf1bd6f", func := "witnessbox/witlaw4.TreeHalves", spec := "treeHalves", unfollowed := true, recurses := true, apart := false, narrowed := true }
def TreeHalvesUptoSaid : Prop := treeHalvesUptoRow.holds Try.pinned (OpenSpec.upto treeHalvesSpec)

/-- 'witlaw4.AuditCounts', WHERE WHAT IT READS IS OF BULK AT MOST 1048576: true; the input reads as it did. -/
def auditCountsUptoRow : OpenClaim := { program := "ytcpnhmjibihpkaa", sum := "9190bbdb2e097260fc876e48529d947eb13fac898d42ef5a58bf597eabf1bd6f", func := "witnessbox/witlaw4.AuditCounts", spec := "auditCounts", recurses := true, apart := false, narrowed := true }
def AuditCountsUptoSaid : Prop := auditCountsUptoRow.holds Try.pinned (OpenSpec.upto auditCountsSpec)

/-- 'witlaw1.ProofProves', WHERE WHAT IT READS IS OF BULK AT MOST 1048576: true; the input reads as it did. -/
def proofProvesUptoRow : OpenClaim := { program := "ytcpnhmjibihpkaa", sum := "9190bbdb2e097260fc876e48529d947eb13fac898d42ef5a58bf597eabf1bd6f", func := "witnessbox/witlaw1.ProofProves", spec := "proofProves", unfollowed := true, recurses := true, apart := false, narrowed := true }
def ProofProvesUptoSaid : Prop := proofProvesUptoRow.holds Try.pinned (OpenSpec.upto proofProvesSpec)

/-- 'witlaw1.TileRoot', WHERE WHAT IT READS IS OF BULK AT MOST 1048576: true; the input reads as it did. -/
def tileRootUptoRow : OpenClaim := { program := "ytcpnhmjibihpkaa", sum := "9190bbdb2e097260fc876e48529d947eb13fac898d42ef5a58bf597eabf1bd6f", func := "witnessbox/witlaw1.TileRoot", spec := "tileRoot", unfollowed := true, recurses := true, apart := false, narrowed := true }
def TileRootUptoSaid : Prop := tileRootUptoRow.holds Try.pinned (OpenSpec.upto tileRootSpec)

/-- 'witlaw4.BatchAll', WHERE WHAT IT READS IS OF BULK AT MOST 1048576: true; the input reads as it did. -/
def batchAllUptoRow : OpenClaim := { program := "ytcpnhmjibihpkaa", sum := "9190bbdb2e097260fc876e48529d947eb13fac898d42ef5a58bf597eabf1bd6f", func := "witnessbox/witlaw4.BatchAll", spec := "batchAll", unfollowed := true, recurses := true, apart := false, narrowed := true }
def BatchAllUptoSaid : Prop := batchAllUptoRow.holds Try.pinned (OpenSpec.upto batchAllSpec)

/-- 'witlaw1.PeaksGrow', WHERE WHAT IT READS IS OF BULK AT MOST 1048576: true; the input reads as it did. -/
def peaksGrowUptoRow : OpenClaim := { program := "ytcpnhmjibihpkaa", sum := "9190bbdb2e097260fc876e48529d947eb13fac898d42ef5a58bf597eabf1bd6f", func := "witnessbox/witlaw1.PeaksGrow", spec := "peaksGrow", unfollowed := true, recurses := true, apart := false, narrowed := true }
def PeaksGrowUptoSaid : Prop := peaksGrowUptoRow.holds Try.pinned (OpenSpec.upto peaksGrowSpec)

/-- 'witlaw3.PruneKnows', WHERE WHAT IT READS IS OF BULK AT MOST 1048576: true; the input reads as it did. -/
def pruneKnowsUptoRow : OpenClaim := { program := "ytcpnhmjibihpkaa", sum := "9190bbdb2e097260fc876e48529d947eb13fac898d42ef5a58bf597eabf1bd6f", func := "witnessbox/witlaw3.PruneKnows", spec := "pruneKnows", unfollowed := true, recurses := true, apart := false, narrowed := true }
def PruneKnowsUptoSaid : Prop := pruneKnowsUptoRow.holds Try.pinned (OpenSpec.upto pruneKnowsSpec)

/-- 'witlaw3.BatchProves', WHERE WHAT IT READS IS OF BULK AT MOST 1048576: true; the input reads as it did. -/
def batchProvesUptoRow : OpenClaim := { program := "ytcpnhmjibihpkaa", sum := "9190bbdb2e097260fc876e48529d947eb13fac898d42ef5a58bf597eabf1bd6f", func := "witnessbox/witlaw3.BatchProves", spec := "batchProves", unfollowed := true, recurses := true, apart := false, narrowed := true }
def BatchProvesUptoSaid : Prop := batchProvesUptoRow.holds Try.pinned (OpenSpec.upto batchProvesSpec)

end Rows
end Go.Proofs.Ytcpnhmjibihpkaa
