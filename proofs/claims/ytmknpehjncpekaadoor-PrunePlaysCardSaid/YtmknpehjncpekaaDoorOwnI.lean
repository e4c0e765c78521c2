/- Slices of ints that a call makes. -/
import Derived.Test.YtmknpehjncpekaaDoorRows
import Derived.Test.YtmknpehjncpekaaDoorGrown
namespace Go.Proofs.YtmknpehjncpekaaDoor
open Go.RowKit
set_option linter.unusedVariables false

theorem info_int' : (Tryd.prog.info? 3).map (fun i => (i.zero, i.size, i.bytes)) = some (some (.int .i64 0), 1, 8) := by kernel_rfl
def OwnN (w w' : World) (v : Value) (ys : List Int) : Prop := w'.ownsRow w.heap.size 3 1 v ys.length (ys.map (Value.int .i64))
theorem OwnN.mk {w w' : World} {v : Value} {n : Nat} {cs : List Value} {ys : List Int} (h : w'.ownsRow w.heap.size 3 1 v n cs) (hn : n = ys.length) (hc : cs = ys.map (Value.int .i64)) : OwnN w w' v ys := by
  subst hn; subst hc; exact h
theorem oneN (z : Int) : ∀ u ∈ [Value.int .i64 z], u.oneCell' = true := by intro u hu; simp at hu; subst hu; rfl
theorem OwnN.ext {w w' w2 : World} {v : Value} {ys : List Int} (h : OwnN w w' v ys) (e : Ext w' w2) : OwnN w w2 v ys := own_ext h e
theorem OwnN.lower {w w1 w' : World} {v : Value} {ys : List Int} (h : OwnN w1 w' v ys) (e : w.heap.size ≤ w1.heap.size) : OwnN w w' v ys := own_lower h e
theorem OwnN.nil (w w' : World) : OwnN w w' (.slice none 0 0) [] := own_nil _ _ _ _
theorem OwnN.rd {w w' : World} {v : Value} {ys : List Int} (h : OwnN w w' v ys) : ∃ A c, v = .slice A ys.length c ∧ c ≤ maxLen ∧ Rd w' 1 A ys.length c (ys.map (Value.int .i64)) := by
  obtain ⟨A, c, h1, h2, h3, _⟩ := own_rd h
  exact ⟨A, c, h1, h2, h3⟩
theorem OwnN.lit (w : World) (z : Int) : OwnN w (w.alloc (.cells #[.int .i64 z] 3)) (.slice (some ⟨w.heap.size, 0, none⟩) 1 1) [z] :=
  World.ownsRow_lit w #[.int .i64 z] 1 (Nat.le_refl _) (by simp [maxLen]) rfl
end Go.Proofs.YtmknpehjncpekaaDoor
