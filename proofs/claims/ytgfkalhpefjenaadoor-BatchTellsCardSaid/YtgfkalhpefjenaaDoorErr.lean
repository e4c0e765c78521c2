import Derived.Test.YtgfkalhpefjenaaDoorMix
namespace Go.Proofs.YtgfkalhpefjenaaDoor
open Go.RowKit
set_option linter.unusedVariables false

/-- an error of package api -/
def errV (n : Int) : Value := .iface 124 (.int .i64 n)
/-- an error by its number: 0 is none -/
def errR (n : Int) : Value := if n = 0 then .nilIface else errV n
theorem errR_0 : errR 0 = .nilIface := rfl
theorem errR_ne {n : Int} (h : n ≠ 0) : errR n = errV n := if_neg h
/-- is there an error? -/
def isOk (k : Int) : Bool := decide (k = 0)
theorem isOk_yes {k : Int} (h : k = 0) : isOk k = true := decide_eq_true h
theorem isOk_no {k : Int} (h : k ≠ 0) : isOk k = false := decide_eq_false h
theorem isOk_true {k : Int} (h : isOk k = true) : k = 0 := of_decide_eq_true h
theorem isOk_false {k : Int} (h : isOk k = false) : k ≠ 0 := of_decide_eq_false h
theorem eql_errR (k : Int) (w : World) : (binOp .eql 24 (errR k) .nilIface).run Tryd.prog w = .ok (.bool (isOk k)) w := by
  by_cases h : k = 0
  · rw [isOk_yes h, h, errR_0]; kernel_rfl
  · rw [errR_ne h, isOk_no h]
    exact run_eql_held_nil _ 24 _ _ (by kernel_rfl)
theorem neq_errR (k : Int) (w : World) : (binOp .neq 24 (errR k) .nilIface).run Tryd.prog w = .ok (.bool (!isOk k)) w := by
  by_cases h : k = 0
  · rw [isOk_yes h, h, errR_0]; kernel_rfl
  · rw [errR_ne h, isOk_no h]
    exact run_neq_held_nil _ 24 _ _ (by kernel_rfl)
theorem guard_errR (op : BinOp) (t : TypeId) (x : Operand) (c : Value) (k : Int) : eqGuard op t x (.const c) (errR k) .nilIface = pure () := by
  by_cases h : k = 0
  · rw [h, errR_0]; exact eqGuard_nil_constR _ _ _ _
  · rw [errR_ne h]; exact eqGuard_at_iface _ _ _ _ _ _ _
/-- what the walk wants of them -/
theorem errR_rules : (∀ (k : Int) (w : World), (binOp .eql 24 (errR k) .nilIface).run Tryd.prog w = .ok (.bool (isOk k)) w) ∧ (∀ (k : Int) (w : World), (binOp .neq 24 (errR k) .nilIface).run Tryd.prog w = .ok (.bool (!isOk k)) w) ∧ (∀ (op : BinOp) (t : TypeId) (x : Operand) (c : Value) (k : Int), eqGuard op t x (.const c) (errR k) .nilIface = pure ()) := ⟨eql_errR, neq_errR, guard_errR⟩

set_option maxRecDepth 100000 in
theorem Valid_any (n : Int) (w : World) : Calls Tryd.prog 90 #[.int .i64 n] w fun e w' => e = .returned (.bool (vld n)) ∧ w = w' := by
  by_cases h0 : 0 ≤ n
  · by_cases h1 : n < 2147483647
    · have hv := ret_bool (vld_mk ⟨h0, h1⟩).symm
      have HV := Lib.hid hv
      clear hv
      go_enter Tryd.func90, Tryd.ntmps90
      go_wp2
      go_ret
      exact ⟨HV.out, rfl⟩
    · have hv := ret_bool (vld_not (n := n) (by omega)).symm
      have HV := Lib.hid hv
      clear hv
      go_enter Tryd.func90, Tryd.ntmps90
      go_wp2
      go_ret
      exact ⟨HV.out, rfl⟩
  · have hv := ret_bool (vld_not (n := n) (by omega)).symm
    have HV := Lib.hid hv
    clear hv
    have h0' : n < 0 := by omega
    clear h0
    go_enter Tryd.func90, Tryd.ntmps90
    go_wp2
    go_ret
    exact ⟨HV.out, rfl⟩

theorem NodeBytes_ok (a b : Int) (w : World) (ha : vld a = true) (hb : vld b = true) :
    Calls Tryd.prog 123 #[.int .i64 a, .int .i64 b] w fun e w' => e = .returned (.tuple #[.string ⟨(nodeB a b).toArray⟩, .nilIface]) ∧ Ext w w' := by
  go_enter Tryd.func123, Tryd.ntmps123
  go_wp2_with (go_at_call 90; refine (Valid_any _ _).mono ?_; rintro e w' ⟨rfl, rfl⟩)
  refine (BytesOf_any _ _ _ (vld_true ha).1 (vld_true hb).1).mono ?_
  rintro e w1 ⟨rfl, hb1⟩
  go_wp2_with fail
  go_ret2
  exact ⟨rfl, by (repeat (with_reducible first | exact Ext.refl _ | assumption | refine Ext.drew ?_ | refine Ext.drewN ?_ _ | refine Ext.alloc ?_ _ | refine Ext.trans ?_ (by with_reducible assumption)))⟩
theorem NodeBytes_bad (a b : Int) (w : World) (h : ¬ (vld a = true ∧ vld b = true)) :
    Calls Tryd.prog 123 #[.int .i64 a, .int .i64 b] w fun e w' => e = .returned (.tuple #[.string ⟨#[]⟩, errV 1]) ∧ Ext w w' := by
  cases ha : vld a
  · clear h
    go_enter Tryd.func123, Tryd.ntmps123
    go_wp2_with (go_at_call 90; refine (Valid_any _ _).mono ?_; rintro e w' ⟨rfl, rfl⟩)
    go_ret2
    exact ⟨rfl, by (repeat (with_reducible first | exact Ext.refl _ | assumption | refine Ext.drew ?_ | refine Ext.drewN ?_ _ | refine Ext.alloc ?_ _ | refine Ext.trans ?_ (by with_reducible assumption)))⟩
  · have hb : vld b = false := by
      cases hb : vld b
      · rfl
      · exact absurd ⟨ha, hb⟩ h
    clear h
    go_enter Tryd.func123, Tryd.ntmps123
    go_wp2_with (go_at_call 90; refine (Valid_any _ _).mono ?_; rintro e w' ⟨rfl, rfl⟩)
    go_ret2
    exact ⟨rfl, by (repeat (with_reducible first | exact Ext.refl _ | assumption | refine Ext.drew ?_ | refine Ext.drewN ?_ _ | refine Ext.alloc ?_ _ | refine Ext.trans ?_ (by with_reducible assumption)))⟩
theorem Node_ok (a b : Int) (w : World) (ha : vld a = true) (hb : vld b = true) :
    Calls Tryd.prog 70 #[.int .i64 a, .int .i64 b] w fun e w' => e = .returned (.tuple #[.int .i64 (nodeL a b), .nilIface]) ∧ Ext w w' := by
  go_enter Tryd.func70, Tryd.ntmps70
  go_wp2_with fail
  refine (NodeBytes_ok _ _ _ ha hb).mono ?_
  rintro e w1 ⟨rfl, hb1⟩
  have hl := size_mk (nodeB a b)
  rw [nodeB_len] at hl
  go_wp2_with fail
  refine (Sum_any _ _ (by simp only [maxLen]; omega)).mono ?_
  rintro e w2 ⟨rfl, hb2⟩
  go_wp2_with fail
  go_ret2
  exact ⟨rfl, by (repeat (with_reducible first | exact Ext.refl _ | assumption | refine Ext.drew ?_ | refine Ext.drewN ?_ _ | refine Ext.alloc ?_ _ | refine Ext.trans ?_ (by with_reducible assumption)))⟩
theorem Node_bad (a b : Int) (w : World) (h : ¬ (vld a = true ∧ vld b = true)) :
    Calls Tryd.prog 70 #[.int .i64 a, .int .i64 b] w fun e w' => e = .returned (.tuple #[.int .i64 0, errV 1]) ∧ Ext w w' := by
  go_enter Tryd.func70, Tryd.ntmps70
  go_wp2_with fail
  refine (NodeBytes_bad _ _ _ h).mono ?_
  rintro e w1 ⟨rfl, hb1⟩
  simp only [errV]
  go_wp2_with fail
  go_ret2
  exact ⟨rfl, by (repeat (with_reducible first | exact Ext.refl _ | assumption | refine Ext.drew ?_ | refine Ext.drewN ?_ _ | refine Ext.alloc ?_ _ | refine Ext.trans ?_ (by with_reducible assumption)))⟩
end Go.Proofs.YtgfkalhpefjenaaDoor
