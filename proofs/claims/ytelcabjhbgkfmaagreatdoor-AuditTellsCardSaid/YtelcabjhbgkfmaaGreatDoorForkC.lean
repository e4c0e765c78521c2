/- fork: both, split, Proves. -/
import Derived.Test.YtelcabjhbgkfmaaGreatDoorHds
import Derived.Test.YtelcabjhbgkfmaaGreatDoorGMake
import Derived.Test.YtelcabjhbgkfmaaGreatDoorAs
namespace Go.Proofs.YtelcabjhbgkfmaaGreatDoor
open Go.RowKit Go.WideShapes
set_option linter.unusedVariables false
attribute [local go_sem ↓] Go.wp_at_zero Go.wp_at_succ

def bothK (a b : Hd) (key : Int) : Int := if verK a key ≠ 0 then verK a key else verK b key
def splB (a b : Hd) : Bool := decide (a.size = b.size) && !decide (a.root = b.root)

def prvB (a b : Hd) (key : Int) : Bool := isOk (bothK a b key) && splB a b
end Go.Proofs.YtelcabjhbgkfmaaGreatDoor

/- fork.Check. -/
namespace Go.Proofs.YtelcabjhbgkfmaaGreatDoor
open Go.RowKit Go.WideShapes
set_option linter.unusedVariables false
attribute [local go_sem ↓] Go.wp_at_zero Go.wp_at_succ

def chkX (a b : Hd) (bk gk : Int) (n : Nat) : Bool × Int :=
  if bk ≠ 0 then (false, bk)
  else if b.size < a.size then (false, 3)
  else if a.size = b.size then (if 0 < n then (false, 3) else (decide (a.root = b.root), 0))
  else if a.size = 0 ∧ 0 < b.size then (true, 0)
  else if gk = 8 then (false, 0) else (isOk gk, gk)
def chk (a b : Hd) (key : Int) (ps : List Int) : Bool × Int := chkX a b (bothK a b key) (gcheck a.root a.size b.root b.size ps) ps.length

set_option maxRecDepth 100000 in
theorem as_nil (v : Value) (w : World) :
    Calls Tryz.prog 117 #[.nilIface, v] w fun ev w' => ev = .returned (.bool false) ∧ Ext w w' := by
  go_enter Tryz.func117, Tryz.ntmps117
  go_wp2_with fail
  go_ret
  exact ⟨rfl, by (repeat (with_reducible first | exact Ext.refl _ | assumption | refine Ext.drew ?_ | refine Ext.drewN ?_ _ | refine Ext.alloc ?_ _ | refine Ext.trans ?_ (by with_reducible assumption)))⟩

end Go.Proofs.YtelcabjhbgkfmaaGreatDoor
