/- the references' desk: a step, all. -/
import Derived.Test.YtnphbkjkeipmmaaGreatDoorJRunAnswers7
import Derived.Test.YtnphbkjkeipmmaaGreatDoorJRunAnswers8
namespace Go.Proofs.YtnphbkjkeipmmaaGreatDoor
open Go.RowKit Go.WideShapes
set_option linter.unusedVariables false
attribute [local go_sem ↓] Go.wp_at_zero Go.wp_at_succ

theorem RStep_any (S : Nat → Prop) (db : Nat) (d : Dk) (bad : Bool) (w : World) (h : DD 33 31 w S db d) (hS : ∀ g, w.heap.size ≤ g → S g) :
    Calls Tryz.prog 18 #[.pointer (some ⟨db, 0, none⟩), .bool bad] w (RSt S db d bad w) := by
  obtain ⟨ve, mb, va, vw, h1, h2⟩ := h
  rcases want_three h1.good with hw | ⟨a, b, hw, k1, k2⟩ | ⟨o, t, hw, k1, k2, k3⟩
  · exact RStep_1 S db mb ve va vw d bad w h1 h2 hS hw
  · exact RStep_2 S db mb ve va vw d bad a b w h1 h2 hS hw k1 k2
  · exact RStep_3 S db mb ve va vw d bad o t w h1 h2 hS hw k1 k2 k3
end Go.Proofs.YtnphbkjkeipmmaaGreatDoor
