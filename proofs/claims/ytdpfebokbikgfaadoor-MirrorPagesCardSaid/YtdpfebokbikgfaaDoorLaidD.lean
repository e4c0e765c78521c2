/- A world for the witness of rows that list strconv's tables alone, and errors.errorType. -/
import Derived.Test.YtdpfebokbikgfaaDoorLaidT
namespace Go.Proofs.YtdpfebokbikgfaaDoor
open Go.ChangeShapes Go.WideShapes Go.RowKit
set_option linter.unusedVariables false

noncomputable def laidWorldD (os : Os) : World :=
  let w0 := World.holding Tryd.prog os ⟨#[], #[], []⟩
  let put := fun (h : Array Obj) (g : Nat) (cs : Array Value) => h.modify g fun
      | .cells _ t frozen => .cells cs t frozen
      | o => o
  let hp := put (put (put (put w0.heap 0 #[.iface 154 (.agg #[.pointer (some ⟨5, 27, none⟩)])])
      4 (deb64.map fun z => Value.int .u8 z).toArray)
      3 (Lib.deBruijn32tab.map (fun (n : Nat) => Value.int .u8 (n : Int))).toArray)
      2 (Lib.pow10Tab.map fun z => Value.int .u64 z).toArray
  { w0 with heap := hp }
end Go.Proofs.YtdpfebokbikgfaaDoor
