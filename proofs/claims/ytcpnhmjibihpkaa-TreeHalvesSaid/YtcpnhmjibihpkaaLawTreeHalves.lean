import Derived.Test.YtcpnhmjibihpkaaAt
namespace Go.Proofs.Ytcpnhmjibihpkaa.treeHalves
open Go.RowKit Go.WideShapes
set_option linter.unusedVariables false

theorem lOk_take {xs : List Int} (h : leafsOk xs) (k : Nat) : leafsOk (xs.take k) := ⟨by have := h.1; rw [List.length_take]; omega, allV_take h.2 k⟩

set_option maxRecDepth 100000 in
set_option maxHeartbeats 1000000 in
theorem walk_ok (A : Option Addr) (n c : Nat) (xs : List Int) (w : World) (hr : Rd w 1 A n c (xs.map (Value.int .i64))) (hm : c ≤ maxLen) (hk : leafsOk xs) :
    Calls Try.prog 8 #[.slice A n c] w fun e w' => e = .returned (.bool true) ∧ Ext w w' := by
  have hx := hr.lenI
  have hn : n ≤ 200 := by have := hk.1; omega
  have h54 : Hid (half (5 : Int).toNat = 4) := half_eq (by decide) (by decide) (k := 2) (by decide) (by decide)
  by_cases h2 : 2 ≤ n
  · have hh := half_lt h2 (by omega)
    have hh' := half_le h2 (by omega)
    have HO := Lib.hid (ofL_node (xs := xs) (by omega) (by omega))
    have ht : Hid (half (n : Int).toNat = half n) := by show half _ = _; rw [Int.toNat_natCast]
    have e1 : Hid ((xs.take (half n : Int).toNat).drop (0 : Int).toNat = xs.take (half n)) := by show _ = _; simp
    have e2 : Hid ((xs.take (n : Int).toNat).drop (half n : Int).toNat = xs.drop (half n)) := by show _ = _; simp [← hx]
    have v1 := vld_ofL (allV_take hk.2 (half n)) (by rw [List.length_take]; omega)
    have v2 := vld_ofL (allV_drop hk.2 (half n)) (by rw [List.length_drop]; omega)
    have HX := Lib.hid hx
    clear hx
    have q : (half n : Int) < (n : Int) := by omega
    have q' : (n : Int) ≤ 2 * (half n : Int) := by omega
    go_enter Try.func8, Try.ntmps8
    go_wp2_with fail
    refine (Split_ok 5 _ (by omega) (by omega)).mono ?_
    rintro e w1 ⟨rfl, hb1⟩
    rw [h54.out]
    go_wp2_with fail
    refine (Root_ok A n c xs _ (by exact hr.ext (by (repeat (with_reducible first | exact Ext.refl _ | assumption | refine Ext.drew ?_ | refine Ext.drewN ?_ _ | refine Ext.alloc ?_ _ | refine Ext.trans ?_ (by with_reducible assumption))))) hm hk).mono ?_
    rintro e w2 ⟨rfl, hb2⟩
    rw [HO.out, HX.out]
    go_wp2_with fail
    refine (Split_ok n _ (by omega) (by omega)).mono ?_
    rintro e w3 ⟨rfl, hb3⟩
    rw [ht.out]
    go_wp2_with fail
    refine (At_ok A n c xs 0 (half n : Nat) _ (by exact hr.ext (by (repeat (with_reducible first | exact Ext.refl _ | assumption | refine Ext.drew ?_ | refine Ext.drewN ?_ _ | refine Ext.alloc ?_ _ | refine Ext.trans ?_ (by with_reducible assumption))))) hm hk (by omega) (by omega) (by omega)).mono ?_
    rintro e w4 ⟨rfl, hb4⟩
    rw [e1.out]
    go_wp2_with fail
    refine (At_ok A n c xs (half n : Nat) n _ (by exact hr.ext (by (repeat (with_reducible first | exact Ext.refl _ | assumption | refine Ext.drew ?_ | refine Ext.drewN ?_ _ | refine Ext.alloc ?_ _ | refine Ext.trans ?_ (by with_reducible assumption))))) hm hk (by omega) (by omega) (by omega)).mono ?_
    rintro e w5 ⟨rfl, hb5⟩
    rw [e2.out]
    go_wp2_with fail
    refine (Node_ok _ _ _ v1 v2).mono ?_
    rintro e w6 ⟨rfl, hb6⟩
    go_wp2_with fail
    go_ret
    exact ⟨rfl, by (repeat (with_reducible first | exact Ext.refl _ | assumption | refine Ext.drew ?_ | refine Ext.drewN ?_ _ | refine Ext.alloc ?_ _ | refine Ext.trans ?_ (by with_reducible assumption)))⟩
  · have h01 : n = 0 ∨ n = 1 := by omega
    clear h2
    rcases h01 with rfl | rfl
    · obtain rfl : xs = [] := List.eq_nil_of_length_eq_zero hx
      have HO : Hid (ofL [] = sumL []) := ofL_nil
      clear hx
      go_enter Try.func8, Try.ntmps8
      go_wp2_with fail
      refine (Split_ok 5 _ (by omega) (by omega)).mono ?_
      rintro e w1 ⟨rfl, hb1⟩
      rw [h54.out]
      go_wp2_with fail
      refine (Root_ok A 0 c [] _ (by exact hr.ext (by (repeat (with_reducible first | exact Ext.refl _ | assumption | refine Ext.drew ?_ | refine Ext.drewN ?_ _ | refine Ext.alloc ?_ _ | refine Ext.trans ?_ (by with_reducible assumption))))) hm hk).mono ?_
      rintro e w2 ⟨rfl, hb2⟩
      rw [HO.out]
      go_wp2_with fail
      refine (Sum_any _ _ (by first | omega | (simp only [size_cat, size_mk, maxLen, List.length_cons, List.length_nil, List.length_append]; omega))).mono ?_
      rintro e w3 ⟨rfl, hb3⟩
      go_wp2_with fail
      go_ret
      exact ⟨ret_bool (by simp), by (repeat (with_reducible first | exact Ext.refl _ | assumption | refine Ext.drew ?_ | refine Ext.drewN ?_ _ | refine Ext.alloc ?_ _ | refine Ext.trans ?_ (by with_reducible assumption)))⟩
    · obtain ⟨x, rfl⟩ : ∃ x, xs = [x] := List.length_eq_one_iff.1 hx
      have HO : Hid (ofL [x] = x) := ofL_one x
      clear hx
      go_enter Try.func8, Try.ntmps8
      go_wp2_with fail
      refine (Split_ok 5 _ (by omega) (by omega)).mono ?_
      rintro e w1 ⟨rfl, hb1⟩
      rw [h54.out]
      go_wp2_with fail
      refine (Root_ok A 1 c [x] _ (by exact hr.ext (by (repeat (with_reducible first | exact Ext.refl _ | assumption | refine Ext.drew ?_ | refine Ext.drewN ?_ _ | refine Ext.alloc ?_ _ | refine Ext.trans ?_ (by with_reducible assumption))))) hm hk).mono ?_
      rintro e w2 ⟨rfl, hb2⟩
      rw [HO.out]
      obtain ⟨ad, hA, hb, hcell⟩ := (hr.ext (hb1.trans hb2)).getI (j := 0) rfl
      rw [add_zero'] at hcell
      subst hA
      go_wp2_with fail
      go_ret
      exact ⟨ret_bool (by simp), by (repeat (with_reducible first | exact Ext.refl _ | assumption | refine Ext.drew ?_ | refine Ext.drewN ?_ _ | refine Ext.alloc ?_ _ | refine Ext.trans ?_ (by with_reducible assumption)))⟩

set_option maxRecDepth 100000 in
theorem walk_bad (A : Option Addr) (n c : Nat) (xs : List Int) (w : World) (hr : Rd w 1 A n c (xs.map (Value.int .i64))) (hm : c ≤ maxLen) (hk : ¬ leafsOk xs) :
    Calls Try.prog 8 #[.slice A n c] w fun e w' => e = .returned (.bool true) ∧ Ext w w' := by
  have h54 : Hid (half (5 : Int).toNat = 4) := half_eq (by decide) (by decide) (k := 2) (by decide) (by decide)
  go_enter Try.func8, Try.ntmps8
  go_wp2_with fail
  refine (Split_ok 5 _ (by omega) (by omega)).mono ?_
  rintro e w1 ⟨rfl, hb1⟩
  rw [h54.out]
  go_wp2_with fail
  refine (Root_bad A n c xs _ (by exact hr.ext (by (repeat (with_reducible first | exact Ext.refl _ | assumption | refine Ext.drew ?_ | refine Ext.drewN ?_ _ | refine Ext.alloc ?_ _ | refine Ext.trans ?_ (by with_reducible assumption))))) hm hk).mono ?_
  rintro e w2 ⟨rfl, hb2⟩
  simp only [errV]
  go_wp2_with fail
  go_ret
  exact ⟨rfl, by (repeat (with_reducible first | exact Ext.refl _ | assumption | refine Ext.drew ?_ | refine Ext.drewN ?_ _ | refine Ext.alloc ?_ _ | refine Ext.trans ?_ (by with_reducible assumption)))⟩

theorem walk (A : Option Addr) (n c : Nat) (xs : List Int) (w : World) (hl : xs.length = n) (hm : c ≤ maxLen) (hr : Rd w 1 A n c (xs.map (Value.int .i64))) (hg : ∀ y ∈ xs, igood y) :
    Calls Try.prog 8 #[.slice A n c] w fun e w' => e = .returned (.bool true) ∧ Ext w w' := by
  by_cases hk : leafsOk xs
  · exact walk_ok A n c xs w hr hm hk
  · exact walk_bad A n c xs w hr hm hk
end Go.Proofs.Ytcpnhmjibihpkaa.treeHalves
