import Derived.Test.YtmknpehjncpekaaDoorRows
import Derived.Test.YtmknpehjncpekaaDoorOpen
namespace Go.Proofs.YtmknpehjncpekaaDoor
open Go.ChangeShapes Go.WideShapes Go.ChangeAt Go.RowKit Go.Deep Go.Joins
set_option linter.unusedVariables false

theorem own : ownKnob Tryd.prog.godebug = none := by kernel_rfl
theorem laidOut : laidOutB Tryd.prog = true := by kernel_rfl
section
variable {H : Type} {enc : TypeId × Value → H} {w : World} {base : Nat} {spare : Nat → Bool} {held : Bool}
theorem dec_ent {n : Nat} {cs : List Value} {x : DataW H × List MemPlace} (h : DataW.trod enc Tryd.prog w base spare held n 56 cs = some x) : ∃ y : Ent, cs = y.cells ∧ y.good := by
  obtain ⟨hl, m, hf⟩ := fields_of Tryd.underlying56 (by kernel_rfl) (by kernel_rfl) h
  match cs, hl with
  | [c0, c1], _ =>
    obtain ⟨v0, y0, e0, t0⟩ := hf 0 _ rfl
    obtain ⟨v1, y1, e1, t1⟩ := hf 1 _ rfl
    simp at e0 e1
    subst e0 e1
    obtain ⟨z, hz, _, wz⟩ := DataW.trod_int Tryd.underlying3 t0
    obtain ⟨s, hs, _, ws⟩ := DataW.trod_string Tryd.underlying9 t1
    simp at hz hs
    subst hz hs
    exact ⟨⟨z, s⟩, rfl, wz, ws⟩
theorem dec_head {n : Nat} {cs : List Value} {x : DataW H × List MemPlace} (h : DataW.trod enc Tryd.prog w base spare held n 52 cs = some x) : ∃ y : Hd, cs = y.cells ∧ y.good := by
  obtain ⟨hl, m, hf⟩ := fields_of Tryd.underlying52 (by kernel_rfl) (by kernel_rfl) h
  match cs, hl with
  | [c0, c1, c2, c3], _ =>
    obtain ⟨v0, y0, e0, t0⟩ := hf 0 _ rfl
    obtain ⟨v1, y1, e1, t1⟩ := hf 1 _ rfl
    obtain ⟨v2, y2, e2, t2⟩ := hf 2 _ rfl
    obtain ⟨v3, y3, e3, t3⟩ := hf 3 _ rfl
    simp at e0 e1 e2 e3
    subst e0 e1 e2 e3
    obtain ⟨a, ha, _, wa⟩ := DataW.trod_int Tryd.underlying3 t0
    obtain ⟨b, hb, _, wb⟩ := DataW.trod_int Tryd.underlying3 t1
    obtain ⟨c, hc, _, wc⟩ := DataW.trod_int Tryd.underlying3 t2
    obtain ⟨d, hd, _, wd⟩ := DataW.trod_int Tryd.underlying3 t3
    simp at ha hb hc hd
    subst ha hb hc hd
    exact ⟨⟨a, b, c, d⟩, rfl, wa, wb, wc, wd⟩
end
end Go.Proofs.YtmknpehjncpekaaDoor
