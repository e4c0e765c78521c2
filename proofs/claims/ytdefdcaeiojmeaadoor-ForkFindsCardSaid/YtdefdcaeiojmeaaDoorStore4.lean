/- A head is stored whole. -/
import Derived.Test.YtdefdcaeiojmeaaDoorGrown
namespace Go.Proofs.YtdefdcaeiojmeaaDoor
open Go.RowKit Go.WideShapes
set_option linter.unusedVariables false

set_option maxRecDepth 100000 in
set_option maxHeartbeats 4000000 in
theorem store4_run {P : Program} {w : World} (t : TypeId) (g : Nat) (T : TypeId) (c0 c1 c2 c3 : Value) (z0 z1 z2 z3 : Int)
    (hsz : ∀ w : World, (sizeOf t).run P w = .ok 4 w) (hb : Bk w g T #[c0, c1, c2, c3]) :
    ∃ w', (Instr.storeAt t (.pointer (some ⟨g, 0, none⟩)) (.agg #[.int .i64 z0, .int .i64 z1, .int .i64 z2, .int .i64 z3])).run P w = .ok () w' ∧ Bk w' g T #[.int .i64 z0, .int .i64 z1, .int .i64 z2, .int .i64 z3] ∧ w.grownBy w' (some g) := by
  have q0 := hb.frozen 0
  have q1 := hb.frozen 1
  have q2 := hb.frozen 2
  have q3 := hb.frozen 3
  have y0 : w.cell? ⟨g, 0, none⟩ = some c0 := hb.cell 0
  have y1 : w.cell? ⟨g, 1, none⟩ = some c1 := hb.cell 1
  have y2 : w.cell? ⟨g, 2, none⟩ = some c2 := hb.cell 2
  have y3 : w.cell? ⟨g, 3, none⟩ = some c3 := hb.cell 3
  refine ⟨(((w.setCell ⟨g, 0, none⟩ (.int .i64 z0)).setCell ⟨g, 1, none⟩ (.int .i64 z1)).setCell ⟨g, 2, none⟩ (.int .i64 z2)).setCell ⟨g, 3, none⟩ (.int .i64 z3), ?_, (((hb.set_ 0 (.int .i64 z0)).set_ 1 (.int .i64 z1)).set_ 2 (.int .i64 z2)).set_ 3 (.int .i64 z3),
    gb_trans (gb_trans (gb_trans (gb_set w g 0 _) (gb_set _ g 1 _)) (gb_set _ g 2 _)) (gb_set _ g 3 _)⟩
  simp [go_sem, hsz, q0, q1, q2, q3, y0, y1, y2, y3]
theorem wpl_store4 {P : Program} {w : World} {ops : Array Oper} {rest : List Oper} {o : Oper} {a : Act} {Q : Exit → Act → World → Prop} (hg : o.guard = none) (t : TypeId) (p x : Operand) (hop : o.op = .store t p x)
    (g : Nat) (T : TypeId) (c0 c1 c2 c3 : Value) (z0 z1 z2 z3 : Int)
    (hp : a.eval p = .pointer (some ⟨g, 0, none⟩)) (hx : a.eval x = .agg #[.int .i64 z0, .int .i64 z1, .int .i64 z2, .int .i64 z3])
    (hsz : ∀ w : World, (sizeOf t).run P w = .ok 4 w) (hb : Bk w g T #[c0, c1, c2, c3])
    (hK : ∀ w', Bk w' g T #[.int .i64 z0, .int .i64 z1, .int .i64 z2, .int .i64 z3] → w.grownBy w' (some g) → wpList P ops Q rest (a.put o.dst undef) w') :
    wpList P ops Q (o :: rest) a w := by
  refine wpList_plain hg fun K' hK' => ?_
  obtain ⟨w', h1, h2, h3⟩ := store4_run (P := P) t g T c0 c1 c2 c3 z0 z1 z2 z3 hsz hb
  unfold Oper.wp
  simp [execOp, hop, hp, hx, h1, Result.andThen]
  exact hK' _ _ (hK w' h2 h3)
end Go.Proofs.YtdefdcaeiojmeaaDoor
