/- The references' Digits. -/
import Derived.Test.YtdefdcaeiojmeaaDoorHeadP
import Derived.Test.YtdefdcaeiojmeaaDoorMixS
import Derived.Deep.LoopGhost
import Derived.Deep.DrawnRows
namespace Go.Proofs.YtdefdcaeiojmeaaDoor
open Go.RowKit
set_option linter.unusedVariables false
attribute [local go_sem ↓] Go.wp_at_zero Go.wp_at_succ

set_option maxRecDepth 100000 in
theorem RDigits_any (N : Nat) : ∀ (n : Nat) (w : World), n ≤ N → n ≤ 1000000000 →
    Calls Tryd.prog 83 #[.int .i64 n] w fun e w' => e = .returned (.string (digB n)) ∧ Ext w w' := by
  induction N with
  | zero =>
    intro n w h _
    obtain rfl : n = 0 := by omega
    have HD : Hid (digB 0 = digs.extract 0 (0 + 1)) := digB_one (by omega)
    go_enter Tryd.func83, Tryd.ntmps83
    go_wp2_with fail
    go_ret
    exact ⟨ret_str (by rw [HD.out]; rfl), by (repeat (with_reducible first | exact Ext.refl _ | assumption | refine Ext.drew ?_ | refine Ext.drewN ?_ _ | refine Ext.alloc ?_ _ | refine Ext.trans ?_ (by with_reducible assumption)))⟩
  | succ N ih =>
    intro n w h hn
    have IH := Lib.hid ih
    clear ih
    by_cases h1 : n < 10
    · have HD : Hid (digB n = digs.extract n (n + 1)) := digB_one h1
      go_enter Tryd.func83, Tryd.ntmps83
      go_wp2_with fail
      go_ret
      exact ⟨ret_str (by rw [HD.out]; rfl), by (repeat (with_reducible first | exact Ext.refl _ | assumption | refine Ext.drew ?_ | refine Ext.drewN ?_ _ | refine Ext.alloc ?_ _ | refine Ext.trans ?_ (by with_reducible assumption)))⟩
    · have HD : Hid (digB n = digB (n / 10) ++ digs.extract (n % 10) (n % 10 + 1)) := digB_more h1
      have hsz := digB_size n (n / 10) (by omega)
      have hs1 := digs_size (n := n % 10) (by omega)
      have e1 : Hid ((n : Int) / 10 = ((n / 10 : Nat) : Int)) := by show _ = _; omega
      go_enter Tryd.func83, Tryd.ntmps83
      go_wp2_with fail
      rw [e1.out]
      refine (IH.out (n / 10) _ (by omega) (by omega)).mono ?_
      rintro _ w1 ⟨rfl, hb1⟩
      have e2 : (n : Int) % 10 = ((n % 10 : Nat) : Int) := by omega
      rw [e2]
      have hr10 : n % 10 < 10 := by omega
      have HD' := HD.out
      generalize n % 10 = r at *
      have HD2 := Lib.hid HD'
      clear HD HD' e2 e1
      have hs2 : (digs.extract r (r + 1)).size ≤ 1 := by omega
      go_wp2_with fail
      go_ret
      exact ⟨ret_str (by rw [HD2.out]; rfl), by (repeat (with_reducible first | exact Ext.refl _ | assumption | refine Ext.drew ?_ | refine Ext.drewN ?_ _ | refine Ext.alloc ?_ _ | refine Ext.trans ?_ (by with_reducible assumption)))⟩

end Go.Proofs.YtdefdcaeiojmeaaDoor
