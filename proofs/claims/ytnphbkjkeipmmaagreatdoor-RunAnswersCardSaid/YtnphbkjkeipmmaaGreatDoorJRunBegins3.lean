/- which numbers are sums. -/
import Derived.Test.YtnphbkjkeipmmaaGreatDoorJRunBegins2
import Derived.Test.YtnphbkjkeipmmaaGreatDoorJRunBegins1
namespace Go.Proofs.YtnphbkjkeipmmaaGreatDoor
open Go.RowKit
set_option linter.unusedVariables false

set_option maxRecDepth 100000 in
theorem Valid_any (n : Int) (w : World) : Calls Tryz.prog 139 #[.int .i64 n] w fun e w' => e = .returned (.bool (vld n)) ∧ w = w' := by
  by_cases h0 : 0 ≤ n
  · by_cases h1 : n < 2147483647
    · have hv := ret_bool (vld_mk ⟨h0, h1⟩).symm
      have HV := Lib.hid hv
      clear hv
      go_enter Tryz.func139, Tryz.ntmps139
      go_wp2
      go_ret
      exact ⟨HV.out, rfl⟩
    · have hv := ret_bool (vld_not (n := n) (by omega)).symm
      have HV := Lib.hid hv
      clear hv
      go_enter Tryz.func139, Tryz.ntmps139
      go_wp2
      go_ret
      exact ⟨HV.out, rfl⟩
  · have hv := ret_bool (vld_not (n := n) (by omega)).symm
    have HV := Lib.hid hv
    clear hv
    have h0' : n < 0 := by omega
    clear h0
    go_enter Tryz.func139, Tryz.ntmps139
    go_wp2
    go_ret
    exact ⟨HV.out, rfl⟩
end Go.Proofs.YtnphbkjkeipmmaaGreatDoor

namespace Go.Proofs.YtnphbkjkeipmmaaGreatDoor
open Go.RowKit
set_option linter.unusedVariables false

end Go.Proofs.YtnphbkjkeipmmaaGreatDoor

namespace Go.Proofs.YtnphbkjkeipmmaaGreatDoor
open Go.RowKit
set_option linter.unusedVariables false

end Go.Proofs.YtnphbkjkeipmmaaGreatDoor
