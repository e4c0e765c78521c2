/- which numbers are sums. -/
import Derived.Test.YtmknpehjncpekaaDoorMix
import Derived.Test.YtmknpehjncpekaaDoorErrV
namespace Go.Proofs.YtmknpehjncpekaaDoor
open Go.RowKit
set_option linter.unusedVariables false

set_option maxRecDepth 100000 in
theorem Valid_any (n : Int) (w : World) : Calls Tryd.prog 32 #[.int .i64 n] w fun e w' => e = .returned (.bool (vld n)) ∧ w = w' := by
  by_cases h0 : 0 ≤ n
  · by_cases h1 : n < 2147483647
    · have hv := ret_bool (vld_mk ⟨h0, h1⟩).symm
      have HV := Lib.hid hv
      clear hv
      go_enter Tryd.func32, Tryd.ntmps32
      go_wp2
      go_ret
      exact ⟨HV.out, rfl⟩
    · have hv := ret_bool (vld_not (n := n) (by omega)).symm
      have HV := Lib.hid hv
      clear hv
      go_enter Tryd.func32, Tryd.ntmps32
      go_wp2
      go_ret
      exact ⟨HV.out, rfl⟩
  · have hv := ret_bool (vld_not (n := n) (by omega)).symm
    have HV := Lib.hid hv
    clear hv
    have h0' : n < 0 := by omega
    clear h0
    go_enter Tryd.func32, Tryd.ntmps32
    go_wp2
    go_ret
    exact ⟨HV.out, rfl⟩
end Go.Proofs.YtmknpehjncpekaaDoor
