/- letters, walked. -/
import Derived.Test.YtnafegofmbhahaaDoorLett
import Derived.BigQuiet
namespace Go.Proofs.YtnafegofmbhahaaDoor
open Go.RowKit
set_option linter.unusedVariables false
attribute [local go_sem ↓] Go.wp_at_zero Go.wp_at_succ

theorem Lett_any (n : Nat) (w : World) (hn : n ≤ 100) : Calls Tryd.prog 11 #[.int .i64 n] w fun e w' => e = .returned (.string (lett n)) ∧ Ext w w' := by
  obtain ⟨a, ha⟩ : ∃ a : Nat, n / 26 % 26 = a := ⟨_, rfl⟩
  obtain ⟨b, hb⟩ : ∃ b : Nat, n % 26 = b := ⟨_, rfl⟩
  have ha' : (((n : Int).tdiv 26).tmod 26) = (a : Int) := by
    rw [← ha]; rfl
  have hb' : ((n : Int).tmod 26) = (b : Int) := by rw [← hb]; rfl
  have ha2 : (a : Int) ≤ 3 := by omega
  have hb2 : (b : Int) ≤ 25 := by omega
  have hl : lett n = (ByteArray.mk #[97, 98, 99, 100, 101, 102, 103, 104, 105, 106, 107, 108, 109, 110, 111, 112, 113, 114, 115, 116, 117, 118, 119, 120, 121, 122]).extract a (a + 1) ++ (ByteArray.mk #[97, 98, 99, 100, 101, 102, 103, 104, 105, 106, 107, 108, 109, 110, 111, 112, 113, 114, 115, 116, 117, 118, 119, 120, 121, 122]).extract b (b + 1) := by
    rw [← ha, ← hb]; rfl
  go_enter Tryd.func11, Tryd.ntmps11
  go_wp2_with fail
  go_quiet (fail)
  go_wp2_with fail
  go_ret
  exact ⟨hl ▸ rfl, by (repeat (with_reducible first | exact Ext.refl _ | assumption | refine Ext.drew ?_ | refine Ext.drewN ?_ _ | refine Ext.alloc ?_ _ | refine Ext.trans ?_ (by with_reducible assumption)))⟩
end Go.Proofs.YtnafegofmbhahaaDoor
