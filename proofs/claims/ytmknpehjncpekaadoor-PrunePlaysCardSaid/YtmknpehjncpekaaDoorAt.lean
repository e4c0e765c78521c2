import Derived.Test.YtmknpehjncpekaaDoorTree
namespace Go.Proofs.YtmknpehjncpekaaDoor
open Go.RowKit Go.WideShapes
set_option linter.unusedVariables false

/-! ### tree.At, tree.Root, tree.Split -/
theorem Rd_part {w : World} {A : Option Addr} {n c : Nat} {xs : List Int} (h : Rd w 1 A n c (xs.map (Value.int .i64))) {i j : Nat} (hij : i ≤ j) (hj : j ≤ n) :
    Rd w 1 (if c = i then A else A.map (fun x => x.add i)) (j - i) (c - i) (((xs.take j).drop i).map (Value.int .i64)) :=
  (h.takeI hj).dropI hij

set_option maxRecDepth 100000 in
theorem At_ok (A : Option Addr) (n c : Nat) (xs : List Int) (i j : Int) (w : World) (hr : Rd w 1 A n c (xs.map (Value.int .i64))) (hm : c ≤ maxLen) (hk : leafsOk xs) (h0 : 0 ≤ i) (h1 : i ≤ j) (h2 : j ≤ n) :
    Calls Tryd.prog 55 #[.slice A n c, .int .i64 i, .int .i64 j] w fun e w' => e = .returned (.tuple #[.int .i64 (ofL ((xs.take j.toNat).drop i.toNat)), .nilIface]) ∧ Ext w w' := by
  obtain ⟨i, rfl⟩ := Int.eq_ofNat_of_zero_le h0
  obtain ⟨j, rfl⟩ := Int.eq_ofNat_of_zero_le (Int.le_trans h0 h1)
  simp only [Int.toNat_natCast]
  have hx := hr.lenI
  have hn : n ≤ 200 := by have := hk.1; omega
  have hl := hr.2.1
  have hl' : (n : Int) ≤ (c : Int) := by omega
  have hva := allV_drop (allV_take hk.2 j) i
  by_cases hci : c = i
  · have hcn : c = n := by omega
    have hjn : j = n := by omega
    have HQ : Hid ((xs.take j).drop i = []) := by
      show _ = _
      apply List.eq_nil_of_length_eq_zero
      rw [List.length_drop, List.length_take]
      omega
    have HX := Lib.hid hx
    subst hcn hjn hci
    clear hx
    go_enter Tryd.func55, Tryd.ntmps55
    go_wp2_with fail
    refine (TCheck_ok A _ _ xs _ hr hm hn hk.2).mono ?_
    rintro e w' ⟨rfl, rfl⟩
    go_wp2_with fail
    refine (Of_any 0 _ 0 _ [] _ (Nat.le_refl _) (Rd.nil _ _ _ _) (by simp [maxLen]) (by omega) rfl).mono ?_
    rintro e w1 ⟨rfl, hb1⟩
    go_wp2_with fail
    go_ret2
    exact ⟨ret_two (by rw [HQ.out]; rfl) rfl, by (repeat (with_reducible first | exact Ext.refl _ | assumption | refine Ext.drew ?_ | refine Ext.drewN ?_ _ | refine Ext.alloc ?_ _ | refine Ext.trans ?_ (by with_reducible assumption)))⟩
  · have R := Rd_part hr (i := i) (j := j) (by omega) (by omega)
    rw [if_neg hci] at R
    have hp : c - i ≤ maxLen := by omega
    have HX := Lib.hid hx
    clear hx
    go_enter Tryd.func55, Tryd.ntmps55
    go_wp2_with fail
    refine (TCheck_ok A n c xs _ hr hm hn hk.2).mono ?_
    rintro e w' ⟨rfl, rfl⟩
    go_wp2_with fail
    refine (Of_any (j - i) _ (j - i) (c - i) ((xs.take j).drop i) _ (Nat.le_refl _) R hp (by omega) hva).mono ?_
    rintro e w1 ⟨rfl, hb1⟩
    go_wp2_with fail
    go_ret2
    exact ⟨rfl, by (repeat (with_reducible first | exact Ext.refl _ | assumption | refine Ext.drew ?_ | refine Ext.drewN ?_ _ | refine Ext.alloc ?_ _ | refine Ext.trans ?_ (by with_reducible assumption)))⟩

theorem At_range (A : Option Addr) (n c : Nat) (xs : List Int) (i j : Int) (w : World) (hr : Rd w 1 A n c (xs.map (Value.int .i64))) (hm : c ≤ maxLen) (hk : leafsOk xs) (h : ¬ (0 ≤ i ∧ i ≤ j ∧ j ≤ n)) :
    Calls Tryd.prog 55 #[.slice A n c, .int .i64 i, .int .i64 j] w fun e w' => e = .returned (.tuple #[.int .i64 0, errV 1]) ∧ Ext w w' := by
  have hx := hr.lenI
  have hn : n ≤ 200 := by have := hk.1; omega
  have h' : i < 0 ∨ (0 ≤ i ∧ j < i) ∨ (0 ≤ i ∧ i ≤ j ∧ (n : Int) < j) := by omega
  have HX := Lib.hid hx
  clear hx h
  rcases h' with h1 | ⟨h1, h2⟩ | ⟨h1, h2, h3⟩
  all_goals
    go_enter Tryd.func55, Tryd.ntmps55
    go_wp2_with fail
    refine (TCheck_ok A n c xs _ hr hm hn hk.2).mono ?_
    rintro e w' ⟨rfl, rfl⟩
    go_wp2_with fail
    go_ret2
    exact ⟨rfl, by (repeat (with_reducible first | exact Ext.refl _ | assumption | refine Ext.drew ?_ | refine Ext.drewN ?_ _ | refine Ext.alloc ?_ _ | refine Ext.trans ?_ (by with_reducible assumption)))⟩

theorem At_bad (A : Option Addr) (n c : Nat) (xs : List Int) (i j : Int) (w : World) (hr : Rd w 1 A n c (xs.map (Value.int .i64))) (hm : c ≤ maxLen) (h : ¬ leafsOk xs) :
    Calls Tryd.prog 55 #[.slice A n c, .int .i64 i, .int .i64 j] w fun e w' => e = .returned (.tuple #[.int .i64 0, errV (leafsErr xs)]) ∧ Ext w w' := by
  go_enter Tryd.func55, Tryd.ntmps55
  go_wp2_with fail
  refine (TCheck_bad A n c xs _ hr hm h).mono ?_
  rintro e w' ⟨rfl, rfl⟩
  simp only [errV]
  go_wp2_with fail
  go_ret2
  exact ⟨rfl, by (repeat (with_reducible first | exact Ext.refl _ | assumption | refine Ext.drew ?_ | refine Ext.drewN ?_ _ | refine Ext.alloc ?_ _ | refine Ext.trans ?_ (by with_reducible assumption)))⟩

set_option maxRecDepth 100000 in
theorem Root_ok (A : Option Addr) (n c : Nat) (xs : List Int) (w : World) (hr : Rd w 1 A n c (xs.map (Value.int .i64))) (hm : c ≤ maxLen) (hk : leafsOk xs) :
    Calls Tryd.prog 29 #[.slice A n c] w fun e w' => e = .returned (.tuple #[.int .i64 (ofL xs), .nilIface]) ∧ Ext w w' := by
  have hx := hr.lenI
  have he : Hid (ofL ((xs.take (n : Int).toNat).drop (0 : Int).toNat) = ofL xs) := by
    show ofL _ = _
    simp [← hx]
  have HX := Lib.hid hx
  clear hx
  go_enter Tryd.func29, Tryd.ntmps29
  go_wp2_with fail
  refine (At_ok A n c xs 0 n _ hr hm hk (by omega) (by omega) (by omega)).mono ?_
  rintro e w1 ⟨rfl, hb1⟩
  rw [he.out]
  go_wp2_with fail
  go_ret2
  exact ⟨rfl, by (repeat (with_reducible first | exact Ext.refl _ | assumption | refine Ext.drew ?_ | refine Ext.drewN ?_ _ | refine Ext.alloc ?_ _ | refine Ext.trans ?_ (by with_reducible assumption)))⟩
theorem Root_bad (A : Option Addr) (n c : Nat) (xs : List Int) (w : World) (hr : Rd w 1 A n c (xs.map (Value.int .i64))) (hm : c ≤ maxLen) (h : ¬ leafsOk xs) :
    Calls Tryd.prog 29 #[.slice A n c] w fun e w' => e = .returned (.tuple #[.int .i64 0, errV (leafsErr xs)]) ∧ Ext w w' := by
  go_enter Tryd.func29, Tryd.ntmps29
  go_wp2_with fail
  refine (At_bad A n c xs 0 n _ hr hm h).mono ?_
  rintro e w1 ⟨rfl, hb1⟩
  go_wp2_with fail
  go_ret2
  exact ⟨rfl, by (repeat (with_reducible first | exact Ext.refl _ | assumption | refine Ext.drew ?_ | refine Ext.drewN ?_ _ | refine Ext.alloc ?_ _ | refine Ext.trans ?_ (by with_reducible assumption)))⟩

end Go.Proofs.YtmknpehjncpekaaDoor
