/- The references' proofs: Way, Up. -/
import Derived.Test.YtelcabjhbgkfmaaDoorR2
namespace Go.Proofs.YtelcabjhbgkfmaaDoor
open Go.RowKit Go.WideShapes
set_option linter.unusedVariables false
attribute [local go_sem ↓] Go.wp_at_zero Go.wp_at_succ

theorem OwnI.nil (w w' : World) : OwnI w w' (.slice none 0 0) [] := own_nil _ _ _ _
theorem OwnI.lit (w : World) (z : Int) : OwnI w (w.alloc (.cells #[.int .i64 z] 3)) (.slice (some ⟨w.heap.size, 0, none⟩) 1 1) [z] :=
  World.ownsRow_lit w #[.int .i64 z] 1 (Nat.le_refl _) (by simp [maxLen]) rfl
theorem OwnI.lower {w w1 w' : World} {v : Value} {ys : List Int} (h : OwnI w1 w' v ys) (e : w.heap.size ≤ w1.heap.size) : OwnI w w' v ys := own_lower h e

end Go.Proofs.YtelcabjhbgkfmaaDoor
