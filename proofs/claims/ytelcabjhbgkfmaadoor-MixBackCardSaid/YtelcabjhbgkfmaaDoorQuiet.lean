/- A region that draws its order and whose calls make memory: walked once, in the text's order, in the class of the worlds beyond one. -/
import Derived.Test.YtelcabjhbgkfmaaDoorBase
import Derived.Deep.QuietTactic
import Derived.BigQuiet
namespace Go.Proofs.YtelcabjhbgkfmaaDoor
open Go.RowKit
set_option linter.unusedVariables false

/-- a world beyond w0 -/
structure WE (w0 : World) where
  W : World
  h : Ext w0 W
instance (w0 : World) : Nonempty (WE w0) := ⟨⟨w0, Ext.refl w0⟩⟩
section
variable {P : Program}
theorem wp_region_ext {id : Nat} {Q : Exit → Act → World → Prop} {a : Act} {w0 w : World} {l : List Oper} (hm : P.follows .mixedOrders = true) (hB : Region.lexB .any l.toArray = true) (h0 : Ext w0 w)
    (h : wpQuiet P l.toArray (fun w' => ∃ x : WE w0, w' = x.W) (fun a' => ∀ w', Ext w0 w' → Q .normal a' w') l a) : (Code.region id l.toArray true).wp P Q a w := by
  refine wp_region_quiet (C := fun w' => ∃ x : WE w0, w' = x.W) hm hB ⟨⟨_, Ext.drew h0⟩, rfl⟩ ?_
  have hQ : ∀ (ops : Array Oper) (l : List Oper) (a : Act), wpQuiet P ops (fun w' => ∃ x : WE w0, w' = x.W) (fun a' => ∀ w', Ext w0 w' → Q .normal a' w') l a → wpQuiet P ops (fun w' => ∃ x : WE w0, w' = x.W) (fun a' => ∀ w', (∃ x : WE w0, w' = x.W) → Q .normal a' w') l a := by
    intro ops l
    induction l with
    | nil =>
      intro a h w' hw
      obtain ⟨x, rfl⟩ := hw
      exact h _ x.h
    | cons o l ih =>
      intro a h
      unfold wpQuiet at h ⊢
      split
      · rename_i hw
        rw [if_pos hw] at h
        exact Oper.quiet_mono ih h
      · rename_i hw
        rw [if_neg hw] at h
        exact ih _ h
  exact hQ _ _ _ h
theorem quietE {f : FuncId} {args : Array Value} {w0 : World} {x : WE w0} {v : Value} (h : Calls P f args x.W fun e w' => e = .returned v ∧ Ext x.W w') :
    Calls P f args x.W fun e w'' => e = .returned v ∧ ∃ y : WE w0, w'' = y.W := h.mono fun _ w' ⟨he, hw⟩ => ⟨he, ⟨w', x.h.trans hw⟩, rfl⟩
theorem quietS {f : FuncId} {args : Array Value} {w0 : World} {x : WE w0} {v : Value} (h : Calls P f args x.W fun e w' => e = .returned v ∧ x.W = w') :
    Calls P f args x.W fun e w'' => e = .returned v ∧ ∃ y : WE w0, w'' = y.W := h.mono fun _ _ ⟨he, hw⟩ => ⟨he, x, hw.symm⟩
end
end Go.Proofs.YtelcabjhbgkfmaaDoor
