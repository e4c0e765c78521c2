import Derived.Test.YtdpfebokbikgfaaDoorErr0
namespace Go.Proofs.YtdpfebokbikgfaaDoor
open Go.RowKit
set_option linter.unusedVariables false

theorem Node_ok (a b : Int) (w : World) (ha : vld a = true) (hb : vld b = true) :
    Calls Tryd.prog 33 #[.int .i64 a, .int .i64 b] w fun e w' => e = .returned (.tuple #[.int .i64 (nodeL a b), .nilIface]) ∧ Ext w w' := by
  go_enter Tryd.func33, Tryd.ntmps33
  go_wp2_with fail
  refine (NodeBytes_ok _ _ _ ha hb).mono ?_
  rintro e w1 ⟨rfl, hb1⟩
  have hl := size_mk (nodeB a b)
  rw [nodeB_len] at hl
  go_wp2_with fail
  refine (Sum_any _ _ (by simp only [maxLen]; omega)).mono ?_
  rintro e w2 ⟨rfl, hb2⟩
  go_wp2_with fail
  go_ret2
  exact ⟨rfl, by (repeat (with_reducible first | exact Ext.refl _ | assumption | refine Ext.drew ?_ | refine Ext.drewN ?_ _ | refine Ext.alloc ?_ _ | refine Ext.trans ?_ (by with_reducible assumption)))⟩
theorem Node_bad (a b : Int) (w : World) (h : ¬ (vld a = true ∧ vld b = true)) :
    Calls Tryd.prog 33 #[.int .i64 a, .int .i64 b] w fun e w' => e = .returned (.tuple #[.int .i64 0, errV 1]) ∧ Ext w w' := by
  go_enter Tryd.func33, Tryd.ntmps33
  go_wp2_with fail
  refine (NodeBytes_bad _ _ _ h).mono ?_
  rintro e w1 ⟨rfl, hb1⟩
  simp only [errV]
  go_wp2_with fail
  go_ret2
  exact ⟨rfl, by (repeat (with_reducible first | exact Ext.refl _ | assumption | refine Ext.drew ?_ | refine Ext.drewN ?_ _ | refine Ext.alloc ?_ _ | refine Ext.trans ?_ (by with_reducible assumption)))⟩
end Go.Proofs.YtdpfebokbikgfaaDoor
