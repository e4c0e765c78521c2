import Derived.Test.YtnphbkjkeipmmaaGreatDoorJRunBegins3
import Derived.Test.YtnphbkjkeipmmaaGreatDoorJRunBegins4
import Derived.Test.YtnphbkjkeipmmaaGreatDoorJRunBegins0
import Derived.Test.YtnphbkjkeipmmaaGreatDoorJRunBegins5
import Derived.Deep.RegionHeld3
import Derived.Deep.DrawnRows
namespace Go.Proofs.YtnphbkjkeipmmaaGreatDoor
open Go.RowKit Go.WideShapes
set_option linter.unusedVariables false
attribute [local go_sem ↓] Go.wp_at_zero Go.wp_at_succ

set_option maxRecDepth 100000 in
theorem Half_any (n : Int) (w : World) (h2 : 2 ≤ n) (hn : n ≤ 4096) :
    Calls Tryz.prog 137 #[.int .i64 n] w fun e w' => e = .returned (.int .i64 (half n.toNat : Nat)) ∧ w = w' := by
  obtain ⟨a, b, c, d⟩ := half_bitLen n.toNat (by omega) (by omega)
  have hcases : Lib.bitLen (n.toNat - 1) = 1 ∨ Lib.bitLen (n.toNat - 1) = 2 ∨ Lib.bitLen (n.toNat - 1) = 3 ∨ Lib.bitLen (n.toNat - 1) = 4 ∨ Lib.bitLen (n.toNat - 1) = 5 ∨ Lib.bitLen (n.toNat - 1) = 6 ∨ Lib.bitLen (n.toNat - 1) = 7 ∨ Lib.bitLen (n.toNat - 1) = 8 ∨ Lib.bitLen (n.toNat - 1) = 9 ∨ Lib.bitLen (n.toNat - 1) = 10 ∨ Lib.bitLen (n.toNat - 1) = 11 ∨ Lib.bitLen (n.toNat - 1) = 12 := by omega
  clear a b c d
  have ht : (n - 1).toNat = n.toNat - 1 := by omega
  rcases hcases with h | h | h | h | h | h | h | h | h | h | h | h
  all_goals
    have hf : Hid (((half n.toNat : Nat) : Int) = ((2 ^ (Lib.bitLen (n.toNat - 1) - 1) : Nat) : Int)) := rfl
    go_enter Tryz.func137, Tryz.ntmps137
    go_wp2_with fail
    refine (Tryz.bits_Len _ _ (by omega) (by omega)).mono ?_
    rintro e w' ⟨rfl, rfl⟩
    rw [ht, h]
    go_wp2_with fail
    go_ret
    exact ⟨ret_int (by rw [hf.out, h]; rfl), rfl⟩

/-! ### Are all numbers sums? -/
theorem chk_any (n : Int) (w : World) : Calls Tryz.prog 142 #[.int .i64 n] w fun e w' => e = .returned (.bool (!vld n)) ∧ w = w' := by
  go_enter Tryz.func142, Tryz.ntmps142
  go_wp2_with (go_at_call 139; refine (Valid_any _ _).mono ?_; rintro e w' ⟨rfl, rfl⟩)
  go_ret
  exact ⟨rfl, rfl⟩

theorem asks_tree : AsksNot 142 := ⟨chk_any, fun v w => by kernel_rfl⟩

/-! ### tree.Check -/
theorem TCheck_ok (A : Option Addr) (n c : Nat) (xs : List Int) (w : World) (hr : Rd w 1 A n c (xs.map (Value.int .i64))) (hm : c ≤ maxLen) (hn : n ≤ 200) (hv : allV xs = true) :
    Calls Tryz.prog 117 #[.slice A n c] w fun e w' => e = .returned .nilIface ∧ w = w' := by
  go_enter Tryz.func117, Tryz.ntmps117
  go_wp2_with fail
  refine (ContainsFunc_any _ asks_tree A n c xs _ hr hm).mono ?_
  rintro e w' ⟨rfl, rfl⟩
  go_wp2_with fail
  go_ret
  exact ⟨rfl, rfl⟩
theorem TCheck_1 (A : Option Addr) (n c : Nat) (xs : List Int) (w : World) (hr : Rd w 1 A n c (xs.map (Value.int .i64))) (hm : c ≤ maxLen) (hn : n ≤ 200) (hv : allV xs = false) :
    Calls Tryz.prog 117 #[.slice A n c] w fun e w' => e = .returned (errV 1) ∧ w = w' := by
  go_enter Tryz.func117, Tryz.ntmps117
  go_wp2_with fail
  refine (ContainsFunc_any _ asks_tree A n c xs _ hr hm).mono ?_
  rintro e w' ⟨rfl, rfl⟩
  go_wp2_with fail
  go_ret
  exact ⟨rfl, rfl⟩
theorem TCheck_4 (A : Option Addr) (n c : Nat) (w : World) (hn : 200 < n) :
    Calls Tryz.prog 117 #[.slice A n c] w fun e w' => e = .returned (errV 4) ∧ w = w' := by
  go_enter Tryz.func117, Tryz.ntmps117
  go_wp2_with fail
  go_ret
  exact ⟨rfl, rfl⟩
/-- may the leafs be? -/
def leafsOk (xs : List Int) : Prop := xs.length ≤ 200 ∧ allV xs = true
def leafsErr (xs : List Int) : Int := if 200 < xs.length then 4 else 1
theorem TCheck_bad (A : Option Addr) (n c : Nat) (xs : List Int) (w : World) (hr : Rd w 1 A n c (xs.map (Value.int .i64))) (hm : c ≤ maxLen) (h : ¬ leafsOk xs) :
    Calls Tryz.prog 117 #[.slice A n c] w fun e w' => e = .returned (errV (leafsErr xs)) ∧ w = w' := by
  have hx : xs.length = n := by simpa using hr.1
  by_cases h2 : 200 < n
  · refine (TCheck_4 A n c w h2).mono fun e w' hh => ⟨hh.1.trans ?_, hh.2⟩
    unfold leafsErr; rw [if_pos (by omega)]
  · have hv : allV xs = false := by
      cases hv : allV xs
      · rfl
      · exact absurd ⟨by omega, hv⟩ h
    refine (TCheck_1 A n c xs w hr hm (by omega) hv).mono fun e w' hh => ⟨hh.1.trans ?_, hh.2⟩
    unfold leafsErr; rw [if_neg (by omega)]

set_option maxRecDepth 100000 in
set_option maxHeartbeats 1000000 in
theorem Of_any (N : Nat) : ∀ (A : Option Addr) (n c : Nat) (xs : List Int) (w : World), n ≤ N → Rd w 1 A n c (xs.map (Value.int .i64)) → c ≤ maxLen → n ≤ 4096 → allV xs = true →
    Calls Tryz.prog 111 #[.slice A n c] w fun e w' => e = .returned (.int .i64 (ofL xs)) ∧ Ext w w' := by
  induction N with
  | zero =>
    intro A n c xs w hN hr hm hn hv
    obtain rfl : n = 0 := by omega
    obtain rfl : xs = [] := List.eq_nil_of_length_eq_zero (by simpa using hr.1)
    clear hr hm hv
    go_enter Tryz.func111, Tryz.ntmps111
    go_wp2_with fail
    refine (Sum_any _ _ (by first | omega | ((try simp only [size_cat]); (try simp only [size_mk]); (try simp only [List.length_append]); (try simp only [List.length_cons]); (try simp only [List.length_nil]); (try unfold maxLen); omega))).mono ?_
    rintro e w1 ⟨rfl, hb1⟩
    go_wp2_with fail
    go_ret
    exact ⟨ret_int ofL_nil.symm, by (repeat (with_reducible first | exact Ext.refl _ | assumption | refine Ext.drew ?_ | refine Ext.drewN ?_ _ | refine Ext.alloc ?_ _ | refine Ext.trans ?_ (by with_reducible assumption)))⟩
  | succ N ih =>
    intro A n c xs w hN hr hm hn hv
    have hx : xs.length = n := by simpa using hr.1
    by_cases h2 : 2 ≤ n
    · have hl : n ≤ c := hr.2.1
      have hk := half_lt h2 hn
      have hk' := half_le h2 hn
      have hk0 := half_pos n
      have HO := Lib.hid (ofL_node (xs := xs) (by omega) (by omega))
      have v1 := (vld_true (vld_ofL (allV_take hv (half n)) (by rw [List.length_take]; omega))).1
      have v2 := (vld_true (vld_ofL (allV_drop hv (half n)) (by rw [List.length_drop]; omega))).1
      have HX := Lib.hid hx
      have IH := Lib.hid ih
      clear ih hx
      unfold maxLen at hm
      go_enter Tryz.func111, Tryz.ntmps111
      go_wp2_with fail
      refine (Half_any _ _ (by omega) (by omega)).mono ?_
      rintro e w' ⟨rfl, rfl⟩
      rw [Int.toNat_natCast]
      have q0 : (0 : Int) ≤ (half n : Int) := by omega
      have q1 : (half n : Int) ≤ (n : Int) := by omega
      have q2 : (half n : Int) ≤ (c : Int) := by omega
      have q3 : (n : Int) ≤ (c : Int) := by omega
      have R1 := hr.takeI (k := half n) (by omega)
      have R2 := hr.dropI' (k := half n) (by omega)
      go_wp2_with fail
      go_region_held3 (fun _ => True) (exact trivial) (first
        | (go_at_call 111; (with_reducible refine (IH.out A (half n) c _ _ (by omega) (by exact R1.ext (by (repeat (with_reducible first | exact Ext.refl _ | assumption | refine Ext.drew ?_ | refine Ext.drewN ?_ _ | refine Ext.alloc ?_ _ | refine Ext.trans ?_ (by with_reducible assumption))))) (by simp only [maxLen]; omega) (by omega) (allV_take hv (half n))).mono ?_); rintro e w1 ⟨rfl, hb1⟩)
        | (go_at_call 111; (with_reducible refine (IH.out _ _ _ _ _ (by omega) (by exact R2.ext (by (repeat (with_reducible first | exact Ext.refl _ | assumption | refine Ext.drew ?_ | refine Ext.drewN ?_ _ | refine Ext.alloc ?_ _ | refine Ext.trans ?_ (by with_reducible assumption))))) (by simp only [maxLen]; omega) (by omega) (allV_drop hv (half n))).mono ?_); rintro e w2 ⟨rfl, hb2⟩)
        | (go_at_call 138; refine (NodeOf_any _ _ _ v1 v2).mono ?_; rintro e w3 ⟨rfl, hb3⟩))
      go_wp2_with fail
      go_ret
      exact ⟨ret_int (by rw [HO.out, HX.out]), by (repeat (with_reducible first | exact Ext.refl _ | assumption | refine Ext.drew ?_ | refine Ext.drewN ?_ _ | refine Ext.alloc ?_ _ | refine Ext.trans ?_ (by with_reducible assumption)))⟩
    · have h01 : n = 0 ∨ n = 1 := by omega
      have IH := Lib.hid ih
      clear ih h2
      rcases h01 with rfl | rfl
      · obtain rfl : xs = [] := List.eq_nil_of_length_eq_zero (by simpa using hr.1)
        clear hr hm hv
        go_enter Tryz.func111, Tryz.ntmps111
        go_wp2_with fail
        refine (Sum_any _ _ (by first | omega | ((try simp only [size_cat]); (try simp only [size_mk]); (try simp only [List.length_append]); (try simp only [List.length_cons]); (try simp only [List.length_nil]); (try unfold maxLen); omega))).mono ?_
        rintro e w1 ⟨rfl, hb1⟩
        go_wp2_with fail
        go_ret
        exact ⟨ret_int ofL_nil.symm, by (repeat (with_reducible first | exact Ext.refl _ | assumption | refine Ext.drew ?_ | refine Ext.drewN ?_ _ | refine Ext.alloc ?_ _ | refine Ext.trans ?_ (by with_reducible assumption)))⟩
      · obtain ⟨x, rfl⟩ : ∃ x, xs = [x] := List.length_eq_one_iff.1 hx
        obtain ⟨ad, rfl, hb, hcell⟩ := hr.at_ (j := 0) (u := .int .i64 x) rfl
        have HO := Lib.hid (ofL_one x)
        rw [add_zero'] at hcell
        clear hr hv hx
        go_enter Tryz.func111, Tryz.ntmps111
        go_wp2_with fail
        go_ret
        exact ⟨ret_int HO.out.symm, by (repeat (with_reducible first | exact Ext.refl _ | assumption | refine Ext.drew ?_ | refine Ext.drewN ?_ _ | refine Ext.alloc ?_ _ | refine Ext.trans ?_ (by with_reducible assumption)))⟩
end Go.Proofs.YtnphbkjkeipmmaaGreatDoor

namespace Go.Proofs.YtnphbkjkeipmmaaGreatDoor
open Go.RowKit Go.WideShapes
set_option linter.unusedVariables false

/-! ### tree.At, tree.Root, tree.Split -/
theorem Rd_part {w : World} {A : Option Addr} {n c : Nat} {xs : List Int} (h : Rd w 1 A n c (xs.map (Value.int .i64))) {i j : Nat} (hij : i ≤ j) (hj : j ≤ n) :
    Rd w 1 (if c = i then A else A.map (fun x => x.add i)) (j - i) (c - i) (((xs.take j).drop i).map (Value.int .i64)) :=
  (h.takeI hj).dropI hij

end Go.Proofs.YtnphbkjkeipmmaaGreatDoor

namespace Go.Proofs.YtnphbkjkeipmmaaGreatDoor
open Go.RowKit Go.WideShapes
set_option linter.unusedVariables false
attribute [local go_sem ↓] Go.wp_at_zero Go.wp_at_succ

theorem asks_sums : AsksNot 172 := by
  refine ⟨fun n w => ?_, fun v w => by kernel_rfl⟩
  go_enter Tryz.func172, Tryz.ntmps172
  go_wp2_with (go_at_call 139; refine (Valid_any _ _).mono ?_; rintro e w' ⟨rfl, rfl⟩)
  go_ret
  exact ⟨rfl, rfl⟩
theorem Sums_any (A : Option Addr) (n c : Nat) (xs : List Int) (w : World) (hr : Rd w 1 A n c (xs.map (Value.int .i64))) (hm : c ≤ maxLen) :
    Calls Tryz.prog 151 #[.slice A n c] w fun e w' => e = .returned (.bool (allV xs)) ∧ w = w' := by
  go_enter Tryz.func151, Tryz.ntmps151
  go_wp2_with fail
  refine (ContainsFunc_any _ asks_sums A n c xs _ hr hm).mono ?_
  rintro e w' ⟨rfl, rfl⟩
  go_wp2_with fail
  go_ret
  exact ⟨ret_bool (by simp), rfl⟩

end Go.Proofs.YtnphbkjkeipmmaaGreatDoor
