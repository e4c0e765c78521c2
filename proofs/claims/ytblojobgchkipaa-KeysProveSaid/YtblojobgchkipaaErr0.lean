import Derived.Test.YtblojobgchkipaaMix
import Derived.Test.YtblojobgchkipaaErrV
namespace Go.Proofs.Ytblojobgchkipaa
open Go.RowKit
set_option linter.unusedVariables false

set_option maxRecDepth 100000 in
theorem Valid_any (n : Int) (w : World) : Calls Try.prog 44 #[.int .i64 n] w fun e w' => e = .returned (.bool (vld n)) ∧ w = w' := by
  by_cases h0 : 0 ≤ n
  · by_cases h1 : n < 2147483647
    · have hv := ret_bool (vld_mk ⟨h0, h1⟩).symm
      have HV := Lib.hid hv
      clear hv
      go_enter Try.func44, Try.ntmps44
      go_wp2
      go_ret
      exact ⟨HV.out, rfl⟩
    · have hv := ret_bool (vld_not (n := n) (by omega)).symm
      have HV := Lib.hid hv
      clear hv
      go_enter Try.func44, Try.ntmps44
      go_wp2
      go_ret
      exact ⟨HV.out, rfl⟩
  · have hv := ret_bool (vld_not (n := n) (by omega)).symm
    have HV := Lib.hid hv
    clear hv
    have h0' : n < 0 := by omega
    clear h0
    go_enter Try.func44, Try.ntmps44
    go_wp2
    go_ret
    exact ⟨HV.out, rfl⟩

theorem NodeBytes_ok (a b : Int) (w : World) (ha : vld a = true) (hb : vld b = true) :
    Calls Try.prog 48 #[.int .i64 a, .int .i64 b] w fun e w' => e = .returned (.tuple #[.string ⟨(nodeB a b).toArray⟩, .nilIface]) ∧ Ext w w' := by
  go_enter Try.func48, Try.ntmps48
  go_wp2_with (go_at_call 44; refine (Valid_any _ _).mono ?_; rintro e w' ⟨rfl, rfl⟩)
  refine (BytesOf_any _ _ _ (vld_true ha).1 (vld_true hb).1).mono ?_
  rintro e w1 ⟨rfl, hb1⟩
  go_wp2_with fail
  go_ret2
  exact ⟨rfl, by (repeat (with_reducible first | exact Ext.refl _ | assumption | refine Ext.drew ?_ | refine Ext.drewN ?_ _ | refine Ext.alloc ?_ _ | refine Ext.trans ?_ (by with_reducible assumption)))⟩
theorem NodeBytes_bad (a b : Int) (w : World) (h : ¬ (vld a = true ∧ vld b = true)) :
    Calls Try.prog 48 #[.int .i64 a, .int .i64 b] w fun e w' => e = .returned (.tuple #[.string ⟨#[]⟩, errV 1]) ∧ Ext w w' := by
  cases ha : vld a
  · clear h
    go_enter Try.func48, Try.ntmps48
    go_wp2_with (go_at_call 44; refine (Valid_any _ _).mono ?_; rintro e w' ⟨rfl, rfl⟩)
    go_ret2
    exact ⟨rfl, by (repeat (with_reducible first | exact Ext.refl _ | assumption | refine Ext.drew ?_ | refine Ext.drewN ?_ _ | refine Ext.alloc ?_ _ | refine Ext.trans ?_ (by with_reducible assumption)))⟩
  · have hb : vld b = false := by
      cases hb : vld b
      · rfl
      · exact absurd ⟨ha, hb⟩ h
    clear h
    go_enter Try.func48, Try.ntmps48
    go_wp2_with (go_at_call 44; refine (Valid_any _ _).mono ?_; rintro e w' ⟨rfl, rfl⟩)
    go_ret2
    exact ⟨rfl, by (repeat (with_reducible first | exact Ext.refl _ | assumption | refine Ext.drew ?_ | refine Ext.drewN ?_ _ | refine Ext.alloc ?_ _ | refine Ext.trans ?_ (by with_reducible assumption)))⟩
end Go.Proofs.Ytblojobgchkipaa
