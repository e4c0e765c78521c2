import Derived.Test.YtcgfdhgceokcnaaDoorJWalWhole3
import Derived.Test.YtcgfdhgceokcnaaDoorJWalWhole4
import Derived.Test.YtcgfdhgceokcnaaDoorJWalWhole0
import Derived.Test.YtcgfdhgceokcnaaDoorJWalWhole5
import Derived.Deep.RegionHeld3
import Derived.Deep.DrawnRows
namespace Go.Proofs.YtcgfdhgceokcnaaDoor
open Go.RowKit Go.WideShapes
set_option linter.unusedVariables false
attribute [local go_sem ↓] Go.wp_at_zero Go.wp_at_succ

/-- may the leafs be? -/
def leafsOk (xs : List Int) : Prop := xs.length ≤ 200 ∧ allV xs = true
def leafsErr (xs : List Int) : Int := if 200 < xs.length then 4 else 1
end Go.Proofs.YtcgfdhgceokcnaaDoor

namespace Go.Proofs.YtcgfdhgceokcnaaDoor
open Go.RowKit Go.WideShapes
set_option linter.unusedVariables false

/-! ### tree.At, tree.Root, tree.Split -/
theorem Rd_part {w : World} {A : Option Addr} {n c : Nat} {xs : List Int} (h : Rd w 1 A n c (xs.map (Value.int .i64))) {i j : Nat} (hij : i ≤ j) (hj : j ≤ n) :
    Rd w 1 (if c = i then A else A.map (fun x => x.add i)) (j - i) (c - i) (((xs.take j).drop i).map (Value.int .i64)) :=
  (h.takeI hj).dropI hij

end Go.Proofs.YtcgfdhgceokcnaaDoor

namespace Go.Proofs.YtcgfdhgceokcnaaDoor
open Go.RowKit Go.WideShapes
set_option linter.unusedVariables false
attribute [local go_sem ↓] Go.wp_at_zero Go.wp_at_succ

end Go.Proofs.YtcgfdhgceokcnaaDoor
