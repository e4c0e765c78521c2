import Derived.Test.YtdpfebokbikgfaaDoorErrA
namespace Go.Proofs.YtdpfebokbikgfaaDoor
open Go.RowKit
set_option linter.unusedVariables false

theorem NodeBytes_ok (a b : Int) (w : World) (ha : vld a = true) (hb : vld b = true) :
    Calls Tryd.prog 65 #[.int .i64 a, .int .i64 b] w fun e w' => e = .returned (.tuple #[.string ⟨(nodeB a b).toArray⟩, .nilIface]) ∧ Ext w w' := by
  go_enter Tryd.func65, Tryd.ntmps65
  go_wp2_with (go_at_call 68; refine (Valid_any _ _).mono ?_; rintro e w' ⟨rfl, rfl⟩)
  refine (BytesOf_any _ _ _ (vld_true ha).1 (vld_true hb).1).mono ?_
  rintro e w1 ⟨rfl, hb1⟩
  go_wp2_with fail
  go_ret2
  exact ⟨rfl, by (repeat (with_reducible first | exact Ext.refl _ | assumption | refine Ext.drew ?_ | refine Ext.drewN ?_ _ | refine Ext.alloc ?_ _ | refine Ext.trans ?_ (by with_reducible assumption)))⟩
theorem NodeBytes_bad (a b : Int) (w : World) (h : ¬ (vld a = true ∧ vld b = true)) :
    Calls Tryd.prog 65 #[.int .i64 a, .int .i64 b] w fun e w' => e = .returned (.tuple #[.string ⟨#[]⟩, errV 1]) ∧ Ext w w' := by
  cases ha : vld a
  · clear h
    go_enter Tryd.func65, Tryd.ntmps65
    go_wp2_with (go_at_call 68; refine (Valid_any _ _).mono ?_; rintro e w' ⟨rfl, rfl⟩)
    go_ret2
    exact ⟨rfl, by (repeat (with_reducible first | exact Ext.refl _ | assumption | refine Ext.drew ?_ | refine Ext.drewN ?_ _ | refine Ext.alloc ?_ _ | refine Ext.trans ?_ (by with_reducible assumption)))⟩
  · have hb : vld b = false := by
      cases hb : vld b
      · rfl
      · exact absurd ⟨ha, hb⟩ h
    clear h
    go_enter Tryd.func65, Tryd.ntmps65
    go_wp2_with (go_at_call 68; refine (Valid_any _ _).mono ?_; rintro e w' ⟨rfl, rfl⟩)
    go_ret2
    exact ⟨rfl, by (repeat (with_reducible first | exact Ext.refl _ | assumption | refine Ext.drew ?_ | refine Ext.drewN ?_ _ | refine Ext.alloc ?_ _ | refine Ext.trans ?_ (by with_reducible assumption)))⟩
end Go.Proofs.YtdpfebokbikgfaaDoor
