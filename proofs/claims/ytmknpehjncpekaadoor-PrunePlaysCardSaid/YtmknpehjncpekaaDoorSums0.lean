import Derived.Test.YtmknpehjncpekaaDoorAsk
import Derived.Deep.RegionHeld3
import Derived.Deep.DrawnRows
namespace Go.Proofs.YtmknpehjncpekaaDoor
open Go.RowKit Go.WideShapes
set_option linter.unusedVariables false
attribute [local go_sem ↓] Go.wp_at_zero Go.wp_at_succ

theorem asks_sums : AsksNot 89 := by
  refine ⟨fun n w => ?_, fun v w => by kernel_rfl⟩
  go_enter Tryd.func89, Tryd.ntmps89
  go_wp2_with (go_at_call 32; refine (Valid_any _ _).mono ?_; rintro e w' ⟨rfl, rfl⟩)
  go_ret
  exact ⟨rfl, rfl⟩
theorem Sums_any (A : Option Addr) (n c : Nat) (xs : List Int) (w : World) (hr : Rd w 1 A n c (xs.map (Value.int .i64))) (hm : c ≤ maxLen) :
    Calls Tryd.prog 63 #[.slice A n c] w fun e w' => e = .returned (.bool (allV xs)) ∧ w = w' := by
  go_enter Tryd.func63, Tryd.ntmps63
  go_wp2_with fail
  refine (ContainsFunc_any _ asks_sums A n c xs _ hr hm).mono ?_
  rintro e w' ⟨rfl, rfl⟩
  go_wp2_with fail
  go_ret
  exact ⟨ret_bool (by simp), rfl⟩

end Go.Proofs.YtmknpehjncpekaaDoor
