import Derived.Test.YtmknpehjncpekaaDoorMixS
namespace Go.Proofs.YtmknpehjncpekaaDoor
open Go.RowKit
set_option linter.unusedVariables false

/-- an error of package api -/
def errV (n : Int) : Value := .iface 71 (.int .i64 n)
/-- an error by its number: 0 is none -/
def errR (n : Int) : Value := if n = 0 then .nilIface else errV n
theorem errR_0 : errR 0 = .nilIface := rfl
theorem errR_ne {n : Int} (h : n ≠ 0) : errR n = errV n := if_neg h
/-- is there an error? -/
def isOk (k : Int) : Bool := decide (k = 0)
theorem isOk_yes {k : Int} (h : k = 0) : isOk k = true := decide_eq_true h
theorem isOk_no {k : Int} (h : k ≠ 0) : isOk k = false := decide_eq_false h
theorem isOk_true {k : Int} (h : isOk k = true) : k = 0 := of_decide_eq_true h
theorem isOk_false {k : Int} (h : isOk k = false) : k ≠ 0 := of_decide_eq_false h
theorem eql_errR (k : Int) (w : World) : (binOp .eql 27 (errR k) .nilIface).run Tryd.prog w = .ok (.bool (isOk k)) w := by
  by_cases h : k = 0
  · rw [isOk_yes h, h, errR_0]; kernel_rfl
  · rw [errR_ne h, isOk_no h]
    exact run_eql_held_nil _ 27 _ _ (by kernel_rfl)
theorem neq_errR (k : Int) (w : World) : (binOp .neq 27 (errR k) .nilIface).run Tryd.prog w = .ok (.bool (!isOk k)) w := by
  by_cases h : k = 0
  · rw [isOk_yes h, h, errR_0]; kernel_rfl
  · rw [errR_ne h, isOk_no h]
    exact run_neq_held_nil _ 27 _ _ (by kernel_rfl)
theorem guard_errR (op : BinOp) (t : TypeId) (x : Operand) (c : Value) (k : Int) : eqGuard op t x (.const c) (errR k) .nilIface = pure () := by
  by_cases h : k = 0
  · rw [h, errR_0]; exact eqGuard_nil_constR _ _ _ _
  · rw [errR_ne h]; exact eqGuard_at_iface _ _ _ _ _ _ _
/-- what the walk wants of them -/
theorem errR_rules : (∀ (k : Int) (w : World), (binOp .eql 27 (errR k) .nilIface).run Tryd.prog w = .ok (.bool (isOk k)) w) ∧ (∀ (k : Int) (w : World), (binOp .neq 27 (errR k) .nilIface).run Tryd.prog w = .ok (.bool (!isOk k)) w) ∧ (∀ (op : BinOp) (t : TypeId) (x : Operand) (c : Value) (k : Int), eqGuard op t x (.const c) (errR k) .nilIface = pure ()) := ⟨eql_errR, neq_errR, guard_errR⟩

end Go.Proofs.YtmknpehjncpekaaDoor
