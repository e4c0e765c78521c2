import Derived.Test.YtcgfdhgceokcnaaGreatDoorJWalKeeps4
import Derived.Test.YtcgfdhgceokcnaaGreatDoorJWalKeeps0
import Derived.Test.YtcgfdhgceokcnaaGreatDoorJWalKeeps5
import Derived.Deep.RegionHeld3
import Derived.Deep.DrawnRows
namespace Go.Proofs.YtcgfdhgceokcnaaGreatDoor
open Go.RowKit Go.WideShapes
set_option linter.unusedVariables false
attribute [local go_sem ↓] Go.wp_at_zero Go.wp_at_succ

set_option maxRecDepth 100000 in
theorem Half_any (n : Int) (w : World) (h2 : 2 ≤ n) (hn : n ≤ 4096) :
    Calls Tryz.prog 87 #[.int .i64 n] w fun e w' => e = .returned (.int .i64 (half n.toNat : Nat)) ∧ w = w' := by
  obtain ⟨a, b, c, d⟩ := half_bitLen n.toNat (by omega) (by omega)
  have hcases : Lib.bitLen (n.toNat - 1) = 1 ∨ Lib.bitLen (n.toNat - 1) = 2 ∨ Lib.bitLen (n.toNat - 1) = 3 ∨ Lib.bitLen (n.toNat - 1) = 4 ∨ Lib.bitLen (n.toNat - 1) = 5 ∨ Lib.bitLen (n.toNat - 1) = 6 ∨ Lib.bitLen (n.toNat - 1) = 7 ∨ Lib.bitLen (n.toNat - 1) = 8 ∨ Lib.bitLen (n.toNat - 1) = 9 ∨ Lib.bitLen (n.toNat - 1) = 10 ∨ Lib.bitLen (n.toNat - 1) = 11 ∨ Lib.bitLen (n.toNat - 1) = 12 := by omega
  clear a b c d
  have ht : (n - 1).toNat = n.toNat - 1 := by omega
  rcases hcases with h | h | h | h | h | h | h | h | h | h | h | h
  all_goals
    have hf : Hid (((half n.toNat : Nat) : Int) = ((2 ^ (Lib.bitLen (n.toNat - 1) - 1) : Nat) : Int)) := rfl
    go_enter Tryz.func87, Tryz.ntmps87
    go_wp2_with fail
    refine (Tryz.bits_Len _ _ (by omega) (by omega)).mono ?_
    rintro e w' ⟨rfl, rfl⟩
    rw [ht, h]
    go_wp2_with fail
    go_ret
    exact ⟨ret_int (by rw [hf.out, h]; rfl), rfl⟩

/-! ### Are all numbers sums? -/
theorem chk_any (n : Int) (w : World) : Calls Tryz.prog 86 #[.int .i64 n] w fun e w' => e = .returned (.bool (!vld n)) ∧ w = w' := by
  go_enter Tryz.func86, Tryz.ntmps86
  go_wp2_with (go_at_call 56; refine (Valid_any _ _).mono ?_; rintro e w' ⟨rfl, rfl⟩)
  go_ret
  exact ⟨rfl, rfl⟩

theorem asks_tree : AsksNot 86 := ⟨chk_any, fun v w => by kernel_rfl⟩

/-! ### tree.Check -/
theorem TCheck_ok (A : Option Addr) (n c : Nat) (xs : List Int) (w : World) (hr : Rd w 1 A n c (xs.map (Value.int .i64))) (hm : c ≤ maxLen) (hn : n ≤ 200) (hv : allV xs = true) :
    Calls Tryz.prog 54 #[.slice A n c] w fun e w' => e = .returned .nilIface ∧ w = w' := by
  go_enter Tryz.func54, Tryz.ntmps54
  go_wp2_with fail
  refine (ContainsFunc_any _ asks_tree A n c xs _ hr hm).mono ?_
  rintro e w' ⟨rfl, rfl⟩
  go_wp2_with fail
  go_ret
  exact ⟨rfl, rfl⟩
theorem TCheck_1 (A : Option Addr) (n c : Nat) (xs : List Int) (w : World) (hr : Rd w 1 A n c (xs.map (Value.int .i64))) (hm : c ≤ maxLen) (hn : n ≤ 200) (hv : allV xs = false) :
    Calls Tryz.prog 54 #[.slice A n c] w fun e w' => e = .returned (errV 1) ∧ w = w' := by
  go_enter Tryz.func54, Tryz.ntmps54
  go_wp2_with fail
  refine (ContainsFunc_any _ asks_tree A n c xs _ hr hm).mono ?_
  rintro e w' ⟨rfl, rfl⟩
  go_wp2_with fail
  go_ret
  exact ⟨rfl, rfl⟩
theorem TCheck_4 (A : Option Addr) (n c : Nat) (w : World) (hn : 200 < n) :
    Calls Tryz.prog 54 #[.slice A n c] w fun e w' => e = .returned (errV 4) ∧ w = w' := by
  go_enter Tryz.func54, Tryz.ntmps54
  go_wp2_with fail
  go_ret
  exact ⟨rfl, rfl⟩
/-- may the leafs be? -/
def leafsOk (xs : List Int) : Prop := xs.length ≤ 200 ∧ allV xs = true
def leafsErr (xs : List Int) : Int := if 200 < xs.length then 4 else 1
theorem TCheck_bad (A : Option Addr) (n c : Nat) (xs : List Int) (w : World) (hr : Rd w 1 A n c (xs.map (Value.int .i64))) (hm : c ≤ maxLen) (h : ¬ leafsOk xs) :
    Calls Tryz.prog 54 #[.slice A n c] w fun e w' => e = .returned (errV (leafsErr xs)) ∧ w = w' := by
  have hx : xs.length = n := by simpa using hr.1
  by_cases h2 : 200 < n
  · refine (TCheck_4 A n c w h2).mono fun e w' hh => ⟨hh.1.trans ?_, hh.2⟩
    unfold leafsErr; rw [if_pos (by omega)]
  · have hv : allV xs = false := by
      cases hv : allV xs
      · rfl
      · exact absurd ⟨by omega, hv⟩ h
    refine (TCheck_1 A n c xs w hr hm (by omega) hv).mono fun e w' hh => ⟨hh.1.trans ?_, hh.2⟩
    unfold leafsErr; rw [if_neg (by omega)]

set_option maxRecDepth 100000 in
set_option maxHeartbeats 1000000 in
theorem Of_any (N : Nat) : ∀ (A : Option Addr) (n c : Nat) (xs : List Int) (w : World), n ≤ N → Rd w 1 A n c (xs.map (Value.int .i64)) → c ≤ maxLen → n ≤ 4096 → allV xs = true →
    Calls Tryz.prog 84 #[.slice A n c] w fun e w' => e = .returned (.int .i64 (ofL xs)) ∧ Ext w w' := by
  induction N with
  | zero =>
    intro A n c xs w hN hr hm hn hv
    obtain rfl : n = 0 := by omega
    obtain rfl : xs = [] := List.eq_nil_of_length_eq_zero (by simpa using hr.1)
    clear hr hm hv
    go_enter Tryz.func84, Tryz.ntmps84
    go_wp2_with fail
    refine (Sum_any _ _ (by first | omega | ((try simp only [size_cat]); (try simp only [size_mk]); (try simp only [List.length_append]); (try simp only [List.length_cons]); (try simp only [List.length_nil]); (try unfold maxLen); omega))).mono ?_
    rintro e w1 ⟨rfl, hb1⟩
    go_wp2_with fail
    go_ret
    exact ⟨ret_int ofL_nil.symm, by (repeat (with_reducible first | exact Ext.refl _ | assumption | refine Ext.drew ?_ | refine Ext.drewN ?_ _ | refine Ext.alloc ?_ _ | refine Ext.trans ?_ (by with_reducible assumption)))⟩
  | succ N ih =>
    intro A n c xs w hN hr hm hn hv
    have hx : xs.length = n := by simpa using hr.1
    by_cases h2 : 2 ≤ n
    · have hl : n ≤ c := hr.2.1
      have hk := half_lt h2 hn
      have hk' := half_le h2 hn
      have hk0 := half_pos n
      have HO := Lib.hid (ofL_node (xs := xs) (by omega) (by omega))
      have v1 := (vld_true (vld_ofL (allV_take hv (half n)) (by rw [List.length_take]; omega))).1
      have v2 := (vld_true (vld_ofL (allV_drop hv (half n)) (by rw [List.length_drop]; omega))).1
      have HX := Lib.hid hx
      have IH := Lib.hid ih
      clear ih hx
      unfold maxLen at hm
      go_enter Tryz.func84, Tryz.ntmps84
      go_wp2_with fail
      refine (Half_any _ _ (by omega) (by omega)).mono ?_
      rintro e w' ⟨rfl, rfl⟩
      rw [Int.toNat_natCast]
      have q0 : (0 : Int) ≤ (half n : Int) := by omega
      have q1 : (half n : Int) ≤ (n : Int) := by omega
      have q2 : (half n : Int) ≤ (c : Int) := by omega
      have q3 : (n : Int) ≤ (c : Int) := by omega
      have R1 := hr.takeI (k := half n) (by omega)
      have R2 := hr.dropI' (k := half n) (by omega)
      go_wp2_with fail
      go_region_held3 (fun _ => True) (exact trivial) (first
        | (go_at_call 84; (with_reducible refine (IH.out A (half n) c _ _ (by omega) (by exact R1.ext (by (repeat (with_reducible first | exact Ext.refl _ | assumption | refine Ext.drew ?_ | refine Ext.drewN ?_ _ | refine Ext.alloc ?_ _ | refine Ext.trans ?_ (by with_reducible assumption))))) (by simp only [maxLen]; omega) (by omega) (allV_take hv (half n))).mono ?_); rintro e w1 ⟨rfl, hb1⟩)
        | (go_at_call 84; (with_reducible refine (IH.out _ _ _ _ _ (by omega) (by exact R2.ext (by (repeat (with_reducible first | exact Ext.refl _ | assumption | refine Ext.drew ?_ | refine Ext.drewN ?_ _ | refine Ext.alloc ?_ _ | refine Ext.trans ?_ (by with_reducible assumption))))) (by simp only [maxLen]; omega) (by omega) (allV_drop hv (half n))).mono ?_); rintro e w2 ⟨rfl, hb2⟩)
        | (go_at_call 89; refine (NodeOf_any _ _ _ v1 v2).mono ?_; rintro e w3 ⟨rfl, hb3⟩))
      go_wp2_with fail
      go_ret
      exact ⟨ret_int (by rw [HO.out, HX.out]), by (repeat (with_reducible first | exact Ext.refl _ | assumption | refine Ext.drew ?_ | refine Ext.drewN ?_ _ | refine Ext.alloc ?_ _ | refine Ext.trans ?_ (by with_reducible assumption)))⟩
    · have h01 : n = 0 ∨ n = 1 := by omega
      have IH := Lib.hid ih
      clear ih h2
      rcases h01 with rfl | rfl
      · obtain rfl : xs = [] := List.eq_nil_of_length_eq_zero (by simpa using hr.1)
        clear hr hm hv
        go_enter Tryz.func84, Tryz.ntmps84
        go_wp2_with fail
        refine (Sum_any _ _ (by first | omega | ((try simp only [size_cat]); (try simp only [size_mk]); (try simp only [List.length_append]); (try simp only [List.length_cons]); (try simp only [List.length_nil]); (try unfold maxLen); omega))).mono ?_
        rintro e w1 ⟨rfl, hb1⟩
        go_wp2_with fail
        go_ret
        exact ⟨ret_int ofL_nil.symm, by (repeat (with_reducible first | exact Ext.refl _ | assumption | refine Ext.drew ?_ | refine Ext.drewN ?_ _ | refine Ext.alloc ?_ _ | refine Ext.trans ?_ (by with_reducible assumption)))⟩
      · obtain ⟨x, rfl⟩ : ∃ x, xs = [x] := List.length_eq_one_iff.1 hx
        obtain ⟨ad, rfl, hb, hcell⟩ := hr.at_ (j := 0) (u := .int .i64 x) rfl
        have HO := Lib.hid (ofL_one x)
        rw [add_zero'] at hcell
        clear hr hv hx
        go_enter Tryz.func84, Tryz.ntmps84
        go_wp2_with fail
        go_ret
        exact ⟨ret_int HO.out.symm, by (repeat (with_reducible first | exact Ext.refl _ | assumption | refine Ext.drew ?_ | refine Ext.drewN ?_ _ | refine Ext.alloc ?_ _ | refine Ext.trans ?_ (by with_reducible assumption)))⟩
end Go.Proofs.YtcgfdhgceokcnaaGreatDoor

namespace Go.Proofs.YtcgfdhgceokcnaaGreatDoor
open Go.RowKit Go.WideShapes
set_option linter.unusedVariables false

/-! ### tree.At, tree.Root, tree.Split -/
theorem Rd_part {w : World} {A : Option Addr} {n c : Nat} {xs : List Int} (h : Rd w 1 A n c (xs.map (Value.int .i64))) {i j : Nat} (hij : i ≤ j) (hj : j ≤ n) :
    Rd w 1 (if c = i then A else A.map (fun x => x.add i)) (j - i) (c - i) (((xs.take j).drop i).map (Value.int .i64)) :=
  (h.takeI hj).dropI hij

set_option maxRecDepth 100000 in
theorem At_ok (A : Option Addr) (n c : Nat) (xs : List Int) (i j : Int) (w : World) (hr : Rd w 1 A n c (xs.map (Value.int .i64))) (hm : c ≤ maxLen) (hk : leafsOk xs) (h0 : 0 ≤ i) (h1 : i ≤ j) (h2 : j ≤ n) :
    Calls Tryz.prog 53 #[.slice A n c, .int .i64 i, .int .i64 j] w fun e w' => e = .returned (.tuple #[.int .i64 (ofL ((xs.take j.toNat).drop i.toNat)), .nilIface]) ∧ Ext w w' := by
  obtain ⟨i, rfl⟩ := Int.eq_ofNat_of_zero_le h0
  obtain ⟨j, rfl⟩ := Int.eq_ofNat_of_zero_le (Int.le_trans h0 h1)
  simp only [Int.toNat_natCast]
  have hx := hr.lenI
  have hn : n ≤ 200 := by have := hk.1; omega
  have hl := hr.2.1
  have hl' : (n : Int) ≤ (c : Int) := by omega
  have hva := allV_drop (allV_take hk.2 j) i
  by_cases hci : c = i
  · have hcn : c = n := by omega
    have hjn : j = n := by omega
    have HQ : Hid ((xs.take j).drop i = []) := by
      show _ = _
      apply List.eq_nil_of_length_eq_zero
      rw [List.length_drop, List.length_take]
      omega
    have HX := Lib.hid hx
    subst hcn hjn hci
    clear hx
    go_enter Tryz.func53, Tryz.ntmps53
    go_wp2_with fail
    refine (TCheck_ok A _ _ xs _ hr hm hn hk.2).mono ?_
    rintro e w' ⟨rfl, rfl⟩
    go_wp2_with fail
    refine (Of_any 0 _ 0 _ [] _ (Nat.le_refl _) (Rd.nil _ _ _ _) (by simp [maxLen]) (by omega) rfl).mono ?_
    rintro e w1 ⟨rfl, hb1⟩
    go_wp2_with fail
    go_ret2
    exact ⟨ret_two (by rw [HQ.out]; rfl) rfl, by (repeat (with_reducible first | exact Ext.refl _ | assumption | refine Ext.drew ?_ | refine Ext.drewN ?_ _ | refine Ext.alloc ?_ _ | refine Ext.trans ?_ (by with_reducible assumption)))⟩
  · have R := Rd_part hr (i := i) (j := j) (by omega) (by omega)
    rw [if_neg hci] at R
    have hp : c - i ≤ maxLen := by omega
    have HX := Lib.hid hx
    clear hx
    go_enter Tryz.func53, Tryz.ntmps53
    go_wp2_with fail
    refine (TCheck_ok A n c xs _ hr hm hn hk.2).mono ?_
    rintro e w' ⟨rfl, rfl⟩
    go_wp2_with fail
    refine (Of_any (j - i) _ (j - i) (c - i) ((xs.take j).drop i) _ (Nat.le_refl _) R hp (by omega) hva).mono ?_
    rintro e w1 ⟨rfl, hb1⟩
    go_wp2_with fail
    go_ret2
    exact ⟨rfl, by (repeat (with_reducible first | exact Ext.refl _ | assumption | refine Ext.drew ?_ | refine Ext.drewN ?_ _ | refine Ext.alloc ?_ _ | refine Ext.trans ?_ (by with_reducible assumption)))⟩

theorem At_range (A : Option Addr) (n c : Nat) (xs : List Int) (i j : Int) (w : World) (hr : Rd w 1 A n c (xs.map (Value.int .i64))) (hm : c ≤ maxLen) (hk : leafsOk xs) (h : ¬ (0 ≤ i ∧ i ≤ j ∧ j ≤ n)) :
    Calls Tryz.prog 53 #[.slice A n c, .int .i64 i, .int .i64 j] w fun e w' => e = .returned (.tuple #[.int .i64 0, errV 1]) ∧ Ext w w' := by
  have hx := hr.lenI
  have hn : n ≤ 200 := by have := hk.1; omega
  have h' : i < 0 ∨ (0 ≤ i ∧ j < i) ∨ (0 ≤ i ∧ i ≤ j ∧ (n : Int) < j) := by omega
  have HX := Lib.hid hx
  clear hx h
  rcases h' with h1 | ⟨h1, h2⟩ | ⟨h1, h2, h3⟩
  all_goals
    go_enter Tryz.func53, Tryz.ntmps53
    go_wp2_with fail
    refine (TCheck_ok A n c xs _ hr hm hn hk.2).mono ?_
    rintro e w' ⟨rfl, rfl⟩
    go_wp2_with fail
    go_ret2
    exact ⟨rfl, by (repeat (with_reducible first | exact Ext.refl _ | assumption | refine Ext.drew ?_ | refine Ext.drewN ?_ _ | refine Ext.alloc ?_ _ | refine Ext.trans ?_ (by with_reducible assumption)))⟩

theorem At_bad (A : Option Addr) (n c : Nat) (xs : List Int) (i j : Int) (w : World) (hr : Rd w 1 A n c (xs.map (Value.int .i64))) (hm : c ≤ maxLen) (h : ¬ leafsOk xs) :
    Calls Tryz.prog 53 #[.slice A n c, .int .i64 i, .int .i64 j] w fun e w' => e = .returned (.tuple #[.int .i64 0, errV (leafsErr xs)]) ∧ Ext w w' := by
  go_enter Tryz.func53, Tryz.ntmps53
  go_wp2_with fail
  refine (TCheck_bad A n c xs _ hr hm h).mono ?_
  rintro e w' ⟨rfl, rfl⟩
  simp only [errV]
  go_wp2_with fail
  go_ret2
  exact ⟨rfl, by (repeat (with_reducible first | exact Ext.refl _ | assumption | refine Ext.drew ?_ | refine Ext.drewN ?_ _ | refine Ext.alloc ?_ _ | refine Ext.trans ?_ (by with_reducible assumption)))⟩

set_option maxRecDepth 100000 in
theorem Root_ok (A : Option Addr) (n c : Nat) (xs : List Int) (w : World) (hr : Rd w 1 A n c (xs.map (Value.int .i64))) (hm : c ≤ maxLen) (hk : leafsOk xs) :
    Calls Tryz.prog 27 #[.slice A n c] w fun e w' => e = .returned (.tuple #[.int .i64 (ofL xs), .nilIface]) ∧ Ext w w' := by
  have hx := hr.lenI
  have he : Hid (ofL ((xs.take (n : Int).toNat).drop (0 : Int).toNat) = ofL xs) := by
    show ofL _ = _
    simp [← hx]
  have HX := Lib.hid hx
  clear hx
  go_enter Tryz.func27, Tryz.ntmps27
  go_wp2_with fail
  refine (At_ok A n c xs 0 n _ hr hm hk (by omega) (by omega) (by omega)).mono ?_
  rintro e w1 ⟨rfl, hb1⟩
  rw [he.out]
  go_wp2_with fail
  go_ret2
  exact ⟨rfl, by (repeat (with_reducible first | exact Ext.refl _ | assumption | refine Ext.drew ?_ | refine Ext.drewN ?_ _ | refine Ext.alloc ?_ _ | refine Ext.trans ?_ (by with_reducible assumption)))⟩
theorem Root_bad (A : Option Addr) (n c : Nat) (xs : List Int) (w : World) (hr : Rd w 1 A n c (xs.map (Value.int .i64))) (hm : c ≤ maxLen) (h : ¬ leafsOk xs) :
    Calls Tryz.prog 27 #[.slice A n c] w fun e w' => e = .returned (.tuple #[.int .i64 0, errV (leafsErr xs)]) ∧ Ext w w' := by
  go_enter Tryz.func27, Tryz.ntmps27
  go_wp2_with fail
  refine (At_bad A n c xs 0 n _ hr hm h).mono ?_
  rintro e w1 ⟨rfl, hb1⟩
  go_wp2_with fail
  go_ret2
  exact ⟨rfl, by (repeat (with_reducible first | exact Ext.refl _ | assumption | refine Ext.drew ?_ | refine Ext.drewN ?_ _ | refine Ext.alloc ?_ _ | refine Ext.trans ?_ (by with_reducible assumption)))⟩

end Go.Proofs.YtcgfdhgceokcnaaGreatDoor

namespace Go.Proofs.YtcgfdhgceokcnaaGreatDoor
open Go.RowKit Go.WideShapes
set_option linter.unusedVariables false
attribute [local go_sem ↓] Go.wp_at_zero Go.wp_at_succ

theorem asks_sums : AsksNot 88 := by
  refine ⟨fun n w => ?_, fun v w => by kernel_rfl⟩
  go_enter Tryz.func88, Tryz.ntmps88
  go_wp2_with (go_at_call 56; refine (Valid_any _ _).mono ?_; rintro e w' ⟨rfl, rfl⟩)
  go_ret
  exact ⟨rfl, rfl⟩
theorem Sums_any (A : Option Addr) (n c : Nat) (xs : List Int) (w : World) (hr : Rd w 1 A n c (xs.map (Value.int .i64))) (hm : c ≤ maxLen) :
    Calls Tryz.prog 57 #[.slice A n c] w fun e w' => e = .returned (.bool (allV xs)) ∧ w = w' := by
  go_enter Tryz.func57, Tryz.ntmps57
  go_wp2_with fail
  refine (ContainsFunc_any _ asks_sums A n c xs _ hr hm).mono ?_
  rintro e w' ⟨rfl, rfl⟩
  go_wp2_with fail
  go_ret
  exact ⟨ret_bool (by simp), rfl⟩

end Go.Proofs.YtcgfdhgceokcnaaGreatDoor
