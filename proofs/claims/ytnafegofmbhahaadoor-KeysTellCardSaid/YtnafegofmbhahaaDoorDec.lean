import Derived.Test.YtnafegofmbhahaaDoorRows
import Derived.Test.YtnafegofmbhahaaDoorOpen
namespace Go.Proofs.YtnafegofmbhahaaDoor
open Go.ChangeShapes Go.WideShapes Go.ChangeAt Go.RowKit Go.Deep Go.Joins
set_option linter.unusedVariables false

theorem own : ownKnob Tryd.prog.godebug = none := by kernel_rfl
theorem laidOut : laidOutB Tryd.prog = true := by kernel_rfl
section
variable {H : Type} {enc : TypeId × Value → H} {w : World} {base : Nat} {spare : Nat → Bool} {held : Bool}
theorem dec_pair {n : Nat} {cs : List Value} {x : DataW H × List MemPlace} (h : DataW.trod enc Tryd.prog w base spare held n 25 cs = some x) : ∃ y : Pr, cs = y.cells ∧ y.good := by
  obtain ⟨hl, m, hf⟩ := fields_of Tryd.underlying25 (by kernel_rfl) (by kernel_rfl) h
  match cs, hl with
  | [c0, c1, c2], _ =>
    obtain ⟨v0, y0, e0, t0⟩ := hf 0 _ rfl
    obtain ⟨v1, y1, e1, t1⟩ := hf 1 _ rfl
    obtain ⟨v2, y2, e2, t2⟩ := hf 2 _ rfl
    simp at e0 e1 e2
    subst e0 e1 e2
    obtain ⟨a, ha, _, wa⟩ := DataW.trod_string Tryd.underlying9 t0
    obtain ⟨s, hs, _, ws⟩ := DataW.trod_string Tryd.underlying9 t1
    obtain ⟨b, hb, _⟩ := DataW.trod_bool Tryd.underlying4 t2
    simp at ha hs hb
    subst ha hs hb
    exact ⟨⟨a, s, b⟩, rfl, wa, ws⟩
end
end Go.Proofs.YtnafegofmbhahaaDoor
