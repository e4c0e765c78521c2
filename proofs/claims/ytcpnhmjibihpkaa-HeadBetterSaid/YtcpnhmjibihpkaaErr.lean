import Derived.Test.YtcpnhmjibihpkaaMix
namespace Go.Proofs.Ytcpnhmjibihpkaa
open Go.RowKit
set_option linter.unusedVariables false

/-- an error of package api -/
def errV (n : Int) : Value := .iface 38 (.int .i64 n)
/-- is a number a sum? -/
def vld (n : Int) : Bool := decide (0 ≤ n ∧ n < 2147483647)
theorem vld_true {n : Int} (h : vld n = true) : 0 ≤ n ∧ n < 2147483647 := of_decide_eq_true h
theorem vld_false {n : Int} (h : vld n = false) : ¬ (0 ≤ n ∧ n < 2147483647) := of_decide_eq_false h
theorem vld_mk {n : Int} (h : 0 ≤ n ∧ n < 2147483647) : vld n = true := decide_eq_true h
theorem vld_not {n : Int} (h : ¬ (0 ≤ n ∧ n < 2147483647)) : vld n = false := decide_eq_false h

set_option maxRecDepth 100000 in
theorem Valid_any (n : Int) (w : World) : Calls Try.prog 70 #[.int .i64 n] w fun e w' => e = .returned (.bool (vld n)) ∧ w = w' := by
  by_cases h0 : 0 ≤ n
  · by_cases h1 : n < 2147483647
    · have hv := ret_bool (vld_mk ⟨h0, h1⟩).symm
      have HV := Lib.hid hv
      clear hv
      go_enter Try.func70, Try.ntmps70
      go_wp2
      go_ret
      exact ⟨HV.out, rfl⟩
    · have hv := ret_bool (vld_not (n := n) (by omega)).symm
      have HV := Lib.hid hv
      clear hv
      go_enter Try.func70, Try.ntmps70
      go_wp2
      go_ret
      exact ⟨HV.out, rfl⟩
  · have hv := ret_bool (vld_not (n := n) (by omega)).symm
    have HV := Lib.hid hv
    clear hv
    have h0' : n < 0 := by omega
    clear h0
    go_enter Try.func70, Try.ntmps70
    go_wp2
    go_ret
    exact ⟨HV.out, rfl⟩
end Go.Proofs.Ytcpnhmjibihpkaa
