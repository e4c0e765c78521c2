/-
  No cell of these rows narrows 'for every input' (looked for: loops, veiled, ifaces, maps, wideKeys, modest, calm, conditions, laid).
  DERIVED. THE GIVEN ROWS OF THIS SEAT. 5 by the template 'for every input the law returns true; each argument reads behind the call as it read before'; 0 by the template 'total and deterministic' (their statements: YtblojobgchkipaaTotals.lean).
  GIVEN WITH THE SEED: the statements are not yours to turn. If you find one false, say at which input.
  Laid BY PROGRAM, IN A SANDBOX (cutbox-rows.mjs): the forced cells as the released guide's own fill.sh prints them over the translation 5ac7a24c6ae2bdd0… (all of the seat's roots in one cut). By AI agents, Wed Nov 11 2026. No macro, syntax, notation, axiom, sorry.
-/
import Derived.Test.YtblojobgchkipaaChecked
import GoSem.Claim
import GoSem.ClaimJoined
import GoSem.ClaimMapViews
import Derived.JoinedTies
import Derived.KernelRfl
namespace Go.Proofs.Ytblojobgchkipaa
/- THE CELL 'sum', in the pinned program and in every row, IS THE sha256 OF THE DUMP (.gsa) THAT YtblojobgchkipaaProg.lean LOADS. Nothing in Lean hashes anything: it is a label: what it is worth is what the hold of that sum in a sandbox is worth. -/
noncomputable def Try.pinned : Pinned := { name := "ytblojobgchkipaa", sum := "5ac7a24c6ae2bdd04768bb0cfc5ca5c7a4717ed6afc18fb3cd1bec2ba9cff660", checked := Try.checked }
namespace Rows
def none {H : Type} : Left H := { results := [], args := [] }

/-- 'witlaw2.TableBack': WHATEVER THE INPUT: true; the input reads as it did. -/
def tableBackSpec : ChangeSpec := { name := "tableBack", fn := fun _ => fun
  | [d1, d2, d3, d4] => { results := [.lit (.bool true)], args := [d1, d2, d3, d4] }
  | _ => none }
def tableBackRow : OpenClaim := { program := "ytblojobgchkipaa", sum := "5ac7a24c6ae2bdd04768bb0cfc5ca5c7a4717ed6afc18fb3cd1bec2ba9cff660", func := "witnessbox/witlaw2.TableBack", spec := "tableBack", inPlace := ["internal/bytealg.abigen_runtime_cmpstring"], unfollowed := true, recurses := true, apart := false }
def TableBackSaid : Prop := tableBackRow.holds Try.pinned (OpenSpec.ofChange tableBackSpec)

/-- ITS FALSE NEIGHBOUR: 'it returns false'. Refute it at one input. -/
def tableBackWrong : ChangeSpec := { name := "tableBack", fn := fun _ => fun
  | [d1, d2, d3, d4] => { results := [.lit (.bool false)], args := [d1, d2, d3, d4] }
  | _ => none }
def TableBackWrongFalsely : Prop := tableBackRow.holds Try.pinned (OpenSpec.ofChange tableBackWrong)

/-- 'witlaw4.KeysOne': WHATEVER THE INPUT: true; the input reads as it did. -/
def keysOneSpec : ChangeSpec := { name := "keysOne", fn := fun _ => fun
  | [d1, d2, d3] => { results := [.lit (.bool true)], args := [d1, d2, d3] }
  | _ => none }
def keysOneRow : OpenClaim := { program := "ytblojobgchkipaa", sum := "5ac7a24c6ae2bdd04768bb0cfc5ca5c7a4717ed6afc18fb3cd1bec2ba9cff660", func := "witnessbox/witlaw4.KeysOne", spec := "keysOne", unfollowed := true, recurses := true, apart := false }
def KeysOneSaid : Prop := keysOneRow.holds Try.pinned (OpenSpec.ofChange keysOneSpec)

/-- ITS FALSE NEIGHBOUR: 'it returns false'. Refute it at one input. -/
def keysOneWrong : ChangeSpec := { name := "keysOne", fn := fun _ => fun
  | [d1, d2, d3] => { results := [.lit (.bool false)], args := [d1, d2, d3] }
  | _ => none }
def KeysOneWrongFalsely : Prop := keysOneRow.holds Try.pinned (OpenSpec.ofChange keysOneWrong)

/-- 'witlaw3.KeysProve': WHATEVER THE INPUT: true; the input reads as it did. -/
def keysProveSpec : ChangeSpec := { name := "keysProve", fn := fun _ => fun
  | [d1, d2, d3] => { results := [.lit (.bool true)], args := [d1, d2, d3] }
  | _ => none }
def keysProveRow : OpenClaim := { program := "ytblojobgchkipaa", sum := "5ac7a24c6ae2bdd04768bb0cfc5ca5c7a4717ed6afc18fb3cd1bec2ba9cff660", func := "witnessbox/witlaw3.KeysProve", spec := "keysProve", unfollowed := true, recurses := true, apart := false }
def KeysProveSaid : Prop := keysProveRow.holds Try.pinned (OpenSpec.ofChange keysProveSpec)

/-- ITS FALSE NEIGHBOUR: 'it returns false'. Refute it at one input. -/
def keysProveWrong : ChangeSpec := { name := "keysProve", fn := fun _ => fun
  | [d1, d2, d3] => { results := [.lit (.bool false)], args := [d1, d2, d3] }
  | _ => none }
def KeysProveWrongFalsely : Prop := keysProveRow.holds Try.pinned (OpenSpec.ofChange keysProveWrong)

/-- 'witlaw2.StoreLast': WHATEVER THE INPUT: true; the input reads as it did. -/
def storeLastSpec : ChangeSpec := { name := "storeLast", fn := fun _ => fun
  | [d1, d2, d3, d4, d5] => { results := [.lit (.bool true)], args := [d1, d2, d3, d4, d5] }
  | _ => none }
def storeLastRow : OpenClaim := { program := "ytblojobgchkipaa", sum := "5ac7a24c6ae2bdd04768bb0cfc5ca5c7a4717ed6afc18fb3cd1bec2ba9cff660", func := "witnessbox/witlaw2.StoreLast", spec := "storeLast", inPlace := ["internal/bytealg.abigen_runtime_cmpstring", "slices.overlaps[witnessbox/api.Pair]"], unfollowed := true, recurses := true, apart := false }
def StoreLastSaid : Prop := storeLastRow.holds Try.pinned (OpenSpec.ofChange storeLastSpec)

/-- ITS FALSE NEIGHBOUR: 'it returns false'. Refute it at one input. -/
def storeLastWrong : ChangeSpec := { name := "storeLast", fn := fun _ => fun
  | [d1, d2, d3, d4, d5] => { results := [.lit (.bool false)], args := [d1, d2, d3, d4, d5] }
  | _ => none }
def StoreLastWrongFalsely : Prop := storeLastRow.holds Try.pinned (OpenSpec.ofChange storeLastWrong)

/-- 'witlaw2.LsmSame': WHATEVER THE INPUT: true; the input reads as it did. -/
def lsmSameSpec : ChangeSpec := { name := "lsmSame", fn := fun _ => fun
  | [d1, d2, d3] => { results := [.lit (.bool true)], args := [d1, d2, d3] }
  | _ => none }
def lsmSameRow : OpenClaim := { program := "ytblojobgchkipaa", sum := "5ac7a24c6ae2bdd04768bb0cfc5ca5c7a4717ed6afc18fb3cd1bec2ba9cff660", func := "witnessbox/witlaw2.LsmSame", spec := "lsmSame", inPlace := ["internal/bytealg.abigen_runtime_cmpstring", "slices.overlaps[witnessbox/api.Pair]", "slices.overlaps[witnessbox/lsm.level]"], unfollowed := true, recurses := true, apart := false }
def LsmSameSaid : Prop := lsmSameRow.holds Try.pinned (OpenSpec.ofChange lsmSameSpec)

/-- ITS FALSE NEIGHBOUR: 'it returns false'. Refute it at one input. -/
def lsmSameWrong : ChangeSpec := { name := "lsmSame", fn := fun _ => fun
  | [d1, d2, d3] => { results := [.lit (.bool false)], args := [d1, d2, d3] }
  | _ => none }
def LsmSameWrongFalsely : Prop := lsmSameRow.holds Try.pinned (OpenSpec.ofChange lsmSameWrong)

/- THE SECOND FORM. 'bulk': how many values and letters a reading holds, each counted each time it is reached (what is shared counts as often as it is met; a slice's spare places count too). A statement '..UptoSaid' is the law's where the arguments, and the package variables that the reading takes, are together of bulk at most 1048576: NARROWER than '..Said'. Prove '..Said' where nothing that the law and all that it calls make is longer than what came in: it says more and counts as full. Else prove '..UptoSaid'. A law counts once. -/
mutual
def uptoBulk {H : Type} : DataW H → Nat
  | .lit (.string bytes) => bytes.length + 1
  | .lit _ => 1
  | .nil => 1
  | .ptr d => uptoBulk d + 1
  | .slice elems spare => uptoBulkAll elems + uptoBulkAll spare + 1
  | .agg parts => uptoBulkAll parts + 1
  | .iface _ d => uptoBulk d + 1
  | .map entries => uptoBulkEntries entries + 1
  | .held _ => 1
def uptoBulkAll {H : Type} : List (DataW H) → Nat
  | [] => 0
  | d :: r => uptoBulk d + uptoBulkAll r
def uptoBulkEntries {H : Type} : List (Lit × DataW H) → Nat
  | [] => 0
  | x :: r => uptoBulkEntry x + uptoBulkEntries r
def uptoBulkEntry {H : Type} : Lit × DataW H → Nat
  | (.string bytes, d) => bytes.length + uptoBulk d + 1
  | (_, d) => uptoBulk d + 1
 end
def uptoSmall : (H : Type) → List (DataW H) → Bool := fun _ ds => decide (uptoBulkAll ds ≤ 1048576)
def OpenSpec.upto (s : _root_.Go.ChangeSpec) : _root_.Go.OpenSpec := { _root_.Go.OpenSpec.ofChange s with cond := some uptoSmall }

/-- 'witlaw2.TableBack', WHERE WHAT IT READS IS OF BULK AT MOST 1048576: true; the input reads as it did. -/
def tableBackUptoRow : OpenClaim := { program := "ytblojobgchkipaa", sum := "5ac7a24c6ae2bdd04768bb0cfc5ca5c7a4717ed6afc18fb3cd1bec2ba9cff660", func := "witnessbox/witlaw2.TableBack", spec := "tableBack", inPlace := ["internal/bytealg.abigen_runtime_cmpstring"], unfollowed := true, recurses := true, apart := false, narrowed := true }
def TableBackUptoSaid : Prop := tableBackUptoRow.holds Try.pinned (OpenSpec.upto tableBackSpec)

/-- 'witlaw4.KeysOne', WHERE WHAT IT READS IS OF BULK AT MOST 1048576: true; the input reads as it did. -/
def keysOneUptoRow : OpenClaim := { program := "ytblojobgchkipaa", sum := "5ac7a24c6ae2bdd04768bb0cfc5ca5c7a4717ed6afc18fb3cd1bec2ba9cff660", func := "witnessbox/witlaw4.KeysOne", spec := "keysOne", unfollowed := true, recurses := true, apart := false, narrowed := true }
def KeysOneUptoSaid : Prop := keysOneUptoRow.holds Try.pinned (OpenSpec.upto keysOneSpec)

/-- 'witlaw3.KeysProve', WHERE WHAT IT READS IS OF BULK AT MOST 1048576: true; the input reads as it did. -/
def keysProveUptoRow : OpenClaim := { program := "ytblojobgchkipaa", sum := "5ac7a24c6ae2bdd04768bb0cfc5ca5c7a4717ed6afc18fb3cd1bec2ba9cff660", func := "witnessbox/witlaw3.KeysProve", spec := "keysProve", unfollowed := true, recurses := true, apart := false, narrowed := true }
def KeysProveUptoSaid : Prop := keysProveUptoRow.holds Try.pinned (OpenSpec.upto keysProveSpec)

/-- 'witlaw2.StoreLast', WHERE WHAT IT READS IS OF BULK AT MOST 1048576: true; the input reads as it did. -/
def storeLastUptoRow : OpenClaim := { program := "ytblojobgchkipaa", sum := "5ac7a24c6ae2bdd04768bb0cfc5ca5c7a4717ed6afc18fb3cd1bec2ba9cff660", func := "witnessbox/witlaw2.StoreLast", spec := "storeLast", inPlace := ["internal/bytealg.abigen_runtime_cmpstring", "slices.overlaps[witnessbox/api.Pair]"], unfollowed := true, recurses := true, apart := false, narrowed := true }
def StoreLastUptoSaid : Prop := storeLastUptoRow.holds Try.pinned (OpenSpec.upto storeLastSpec)

/-- 'witlaw2.LsmSame', WHERE WHAT IT READS IS OF BULK AT MOST 1048576: true; the input reads as it did. -/
def lsmSameUptoRow : OpenClaim := { program := "ytblojobgchkipaa", sum := "5ac7a24c6ae2bdd04768bb0cfc5ca5c7a4717ed6afc18fb3cd1bec2ba9cff660", func := "witnessbox/witlaw2.LsmSame", spec := "lsmSame", inPlace := ["internal/bytealg.abigen_runtime_cmpstring", "slices.overlaps[witnessbox/api.Pair]", "slices.overlaps[witnessbox/lsm.level]"], unfollowed := true, recurses := true, apart := false, narrowed := true }
def LsmSameUptoSaid : Prop := lsmSameUptoRow.holds Try.pinned (OpenSpec.upto lsmSameSpec)

end Rows
end Go.Proofs.Ytblojobgchkipaa
