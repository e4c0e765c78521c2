/- The witness's world with unicode/utf8's tables too. -/
import Derived.Test.YtelcabjhbgkfmaaDoorLaidT
import Derived.Lib.LaidU8
namespace Go.Proofs.YtelcabjhbgkfmaaDoor
set_option linter.unusedVariables false
def accRngT : List Int := [128, 191, 160, 191, 128, 159, 144, 191, 128, 143] ++ List.replicate 22 0
noncomputable def laidWorldU (os : Os) : World :=
  let w0 := laidWorldT os
  let put := fun (h : Array Obj) (g : Nat) (cs : Array Value) => h.modify g fun
      | .cells _ t frozen => .cells cs t frozen
      | o => o
  { w0 with heap := put (put w0.heap 6 (accRngT.map fun z => Value.int .u8 z).toArray) 5 (Lib.firstTab.map fun z => Value.int .u8 z).toArray }
end Go.Proofs.YtelcabjhbgkfmaaDoor
