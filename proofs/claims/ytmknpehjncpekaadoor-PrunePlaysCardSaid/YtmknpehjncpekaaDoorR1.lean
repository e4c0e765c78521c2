/- The references' small functions: which number is a sum, sums of bytes, how many bits, whether two lists are the same. -/
import Derived.Test.YtmknpehjncpekaaDoorRHalf
import Derived.Test.YtmknpehjncpekaaDoorPeaksPure
import Derived.Lib.SlicesS
namespace Go.Proofs.YtmknpehjncpekaaDoor
open Go.RowKit Go.WideShapes
set_option linter.unusedVariables false
attribute [local go_sem ↓] Go.wp_at_zero Go.wp_at_succ

theorem allV_snoc {xs : List Int} {k : Nat} {z : Int} (hz : xs[k]? = some z) : allV (xs.take (k + 1)) = (allV (xs.take k) && vld z) := by
  obtain ⟨h, rfl⟩ := List.getElem?_eq_some_iff.1 hz
  rw [List.take_succ_eq_append_getElem h, allV_append]; simp [allV]
theorem allV_no {xs : List Int} {k : Nat} {z : Int} (hz : xs[k]? = some z) (hv : vld z = false) : allV xs = false := by
  cases h : allV xs
  · rfl
  · rw [allV_get h hz] at hv; cases hv

set_option maxRecDepth 100000 in
theorem RValid_any (n : Int) (w : World) : Calls Tryd.prog 5 #[.int .i64 n] w fun e w' => e = .returned (.bool (vld n)) ∧ w = w' := by
  by_cases h0 : 0 ≤ n
  · by_cases h1 : n < 2147483647
    · have HV := Lib.hid (ret_bool (vld_mk ⟨h0, h1⟩).symm)
      go_enter Tryd.func5, Tryd.ntmps5
      go_wp2
      go_ret
      exact ⟨HV.out, rfl⟩
    · have HV := Lib.hid (ret_bool (vld_not (n := n) (by omega)).symm)
      go_enter Tryd.func5, Tryd.ntmps5
      go_wp2
      go_ret
      exact ⟨HV.out, rfl⟩
  · have HV := Lib.hid (ret_bool (vld_not (n := n) (by omega)).symm)
    have h0' : n < 0 := by omega
    clear h0
    go_enter Tryd.func5, Tryd.ntmps5
    go_wp2
    go_ret
    exact ⟨HV.out, rfl⟩

set_option maxRecDepth 100000 in
theorem RAll_any (A : Option Addr) (n c : Nat) (xs : List Int) (w : World) (hr : Rd w 1 A n c (xs.map (Value.int .i64))) (hm : c ≤ maxLen) :
    Calls Tryd.prog 10 #[.slice A n c] w fun e w' => e = .returned (.bool (allV xs)) ∧ w = w' := by
  have HX := Lib.hid hr.lenI
  have hl : n ≤ c := hr.2.1
  unfold maxLen at hm
  go_enter Tryd.func10, Tryd.ntmps10
  go_wp2_with fail
  go_loop [3] (fun i => ∃ k : Nat, k ≤ n ∧ i = .int .i64 k ∧ Hid (allV (xs.take k) = true)) (fun i => n - (intOf i).toNat)
  case atStart => exact ⟨0, Nat.zero_le _, rfl, rfl⟩
  case round =>
    obtain ⟨k, hk, rfl, HK⟩ := hrel
    by_cases hlt : k < n
    · obtain ⟨z, hz⟩ : ∃ z, xs[k]? = some z := ⟨_, List.getElem?_eq_getElem (by rw [HX.out]; exact hlt)⟩
      obtain ⟨ad, hA, hb, hcell⟩ := hr.getI hz
      subst hA
      cases hv : vld z
      · have HF : Hid (allV xs = false) := allV_no hz hv
        have HV := Lib.hid hv
        clear hz hv
        go_wp2_with fail
        refine (RValid_any z _).mono ?_
        rintro _ w' ⟨rfl, rfl⟩
        rw [HV.out]
        go_wp2_with fail
        go_ret
        exact ⟨ret_bool HF.out.symm, rfl⟩
      · have HZ := Lib.hid hz
        have HV := Lib.hid hv
        clear hz hv
        go_wp2_with fail
        refine (RValid_any z _).mono ?_
        rintro _ w' ⟨rfl, rfl⟩
        rw [HV.out]
        go_wp2_with fail
        go_round
        case rel => exact ⟨k + 1, by omega, by go_num, by show _ = _; rw [allV_snoc HZ.out, HK.out, HV.out]; rfl⟩
        case measure => simp [intOf]; omega
    · obtain rfl : k = n := by omega
      have HF : Hid (allV xs = true) := by
        show _ = _
        have := HK.out
        rwa [List.take_of_length_le (by rw [HX.out]; exact Nat.le_refl _)] at this
      go_wp2_with fail
      go_ret
      exact ⟨ret_bool HF.out.symm, rfl⟩

set_option maxRecDepth 100000 in
theorem RLeafs_any (A : Option Addr) (n c : Nat) (xs : List Int) (w : World) (hr : Rd w 1 A n c (xs.map (Value.int .i64))) (hm : c ≤ maxLen) :
    Calls Tryd.prog 8 #[.slice A n c] w fun e w' => e = .returned (.int .i64 (if 200 < xs.length then 4 else if allV xs = true then 0 else 1)) ∧ w = w' := by
  have hx := hr.lenI
  have hl : n ≤ c := hr.2.1
  by_cases h2 : 200 < n
  · have HF : Hid ((if 200 < xs.length then (4 : Int) else if allV xs = true then 0 else 1) = 4) := if_pos (by omega)
    rw [HF.out]
    clear hx
    go_enter Tryd.func8, Tryd.ntmps8
    go_wp2_with fail
    go_ret
    exact ⟨rfl, rfl⟩
  · cases hv : allV xs
    · have HV := Lib.hid hv
      rw [if_neg (by omega), if_neg (by simp)]
      clear hx hv
      go_enter Tryd.func8, Tryd.ntmps8
      go_wp2_with fail
      refine (RAll_any A n c xs _ hr hm).mono ?_
      rintro _ w' ⟨rfl, rfl⟩
      rw [HV.out]
      go_wp2_with fail
      go_ret
      exact ⟨rfl, rfl⟩
    · have HV := Lib.hid hv
      rw [if_neg (by omega), if_pos rfl]
      clear hx hv
      go_enter Tryd.func8, Tryd.ntmps8
      go_wp2_with fail
      refine (RAll_any A n c xs _ hr hm).mono ?_
      rintro _ w' ⟨rfl, rfl⟩
      rw [HV.out]
      go_wp2_with fail
      go_ret
      exact ⟨rfl, rfl⟩

theorem sumL_takeS (s : ByteArray) (k : Nat) (h : k < s.size) : sumL (s.data.toList.take (k + 1)) = (sumL (s.data.toList.take k) * 131 + (s[k].toNat : Int) + 1) % 2147483647 := sumL_take s.data.toList k h
set_option maxRecDepth 100000 in
theorem RSum_any (s : ByteArray) (w : World) (hs : s.size ≤ maxLen) :
    Calls Tryd.prog 60 #[.string s] w fun e w' => e = .returned (.int .i64 (sumL s.data.toList)) ∧ w = w' := by
  unfold maxLen at hs
  go_enter Tryd.func60, Tryd.ntmps60
  go_wp2_with fail
  go_loop [3, 4] (fun n i => ∃ k : Nat, k ≤ s.size ∧ i = .int .i64 k ∧ n = .int .i64 (sumL (s.data.toList.take k))) (fun _ i => s.size - (intOf i).toNat)
  case atStart => exact ⟨0, Nat.zero_le _, rfl, rfl⟩
  case round =>
    obtain ⟨k, hk, rfl, rfl⟩ := hrel
    by_cases hlt : k < s.size
    · obtain ⟨hb0, hb1⟩ := sumL_bd (s.data.toList.take k)
      have HS := Lib.hid (sumL_takeS s k hlt)
      have hb2 : s[k].toNat < 256 := UInt8.toNat_lt _
      generalize sumL (s.data.toList.take k) = t at *
      go_wp2_with fail
      go_round
      case rel => exact ⟨k + 1, by omega, by go_num, by rw [HS.out]⟩
      case measure => simp [intOf]; omega
    · go_wp2_with fail
      go_ret
      exact ⟨ret_int (by rw [List.take_of_length_le (by simp; omega)]), rfl⟩

theorem ones_step {m : Nat} (h : 0 < m) : ones m = m % 2 + ones (m / 2) := by rw [ones, dif_neg (by omega)]
theorem ones_0 : ones 0 = 0 := by rw [ones, dif_pos rfl]
/-- are two lists the same? -/
def sameB {α : Type} [DecidableEq α] (a b : List α) : Bool := decide (a = b)
theorem sameB_yes {α : Type} [DecidableEq α] {a b : List α} (h : a = b) : sameB a b = true := decide_eq_true h
theorem sameB_no {α : Type} [DecidableEq α] {a b : List α} (h : a ≠ b) : sameB a b = false := decide_eq_false h
theorem sameB_self {α : Type} [DecidableEq α] (a : List α) : sameB a a = true := decide_eq_true rfl
theorem sameB_iff {α : Type} [DecidableEq α] {a b : List α} : sameB a b = true ↔ a = b := by unfold sameB; simp
theorem take_same {α : Type} {a b : List α} {k : Nat} {z : α} (h : a.take k = b.take k) (ha : a[k]? = some z) (hb : b[k]? = some z) : a.take (k + 1) = b.take (k + 1) := by
  obtain ⟨h1, e1⟩ := List.getElem?_eq_some_iff.1 ha
  obtain ⟨h2, e2⟩ := List.getElem?_eq_some_iff.1 hb
  rw [List.take_succ_eq_append_getElem h1, List.take_succ_eq_append_getElem h2, h, e1, e2]
theorem take_part {α : Type} {a b : List α} {k : Nat} {y z : α} (ha : a[k]? = some y) (hb : b[k]? = some z) (h : y ≠ z) : a ≠ b := by
  intro e; rw [e, hb] at ha; injection ha with ha; exact h ha.symm
theorem take_whole {α : Type} {a b : List α} {k : Nat} (h : a.take k = b.take k) (ha : a.length = k) (hb : b.length = k) : a = b := by
  rwa [List.take_of_length_le (by omega), List.take_of_length_le (by omega)] at h

set_option maxRecDepth 100000 in
theorem Ints_any (A A' : Option Addr) (n n' c c' : Nat) (xs ys : List Int) (w : World) (hr : Rd w 1 A n c (xs.map (Value.int .i64))) (hr' : Rd w 1 A' n' c' (ys.map (Value.int .i64))) (hm : c ≤ maxLen) (hm' : c' ≤ maxLen) :
    Calls Tryd.prog 17 #[.slice A n c, .slice A' n' c'] w fun e w' => e = .returned (.bool (sameB xs ys)) ∧ Ext w w' := by
  have HX := Lib.hid hr.lenI
  have HY := Lib.hid hr'.lenI
  have hl := hr.2.1
  have hl' := hr'.2.1
  unfold maxLen at hm hm'
  by_cases hn : n = n'
  · subst hn
    go_enter Tryd.func17, Tryd.ntmps17
    go_wp2_with fail
    go_loopw [5] (fun x wr => ∃ j : Nat, x = .int .i64 j ∧ j ≤ n ∧ Ext w wr ∧ Hid (xs.take j = ys.take j)) (fun x _ => n - (intOf x).toNat)
    case atStart => exact ⟨0, rfl, Nat.zero_le _, by (repeat (with_reducible first | exact Ext.refl _ | assumption | refine Ext.drew ?_ | refine Ext.drewN ?_ _ | refine Ext.alloc ?_ _ | refine Ext.trans ?_ (by with_reducible assumption))), rfl⟩
    case round =>
      obtain ⟨j, rfl, hj, hbw, HK⟩ := hrel
      by_cases hc : j < n
      · have h1 := List.getElem?_eq_getElem (l := xs) (i := j) (by rw [HX.out]; exact hc)
        have h2 := List.getElem?_eq_getElem (l := ys) (i := j) (by rw [HY.out]; exact hc)
        generalize xs[j]'(by rw [HX.out]; exact hc) = y at *
        generalize ys[j]'(by rw [HY.out]; exact hc) = z at *
        obtain ⟨ad, rfl, hb, c0⟩ := (hr.ext hbw).getI h1
        obtain ⟨ad', rfl, hb', c0'⟩ := (hr'.ext hbw).getI h2
        have hcN : (j : Int) < (n : Int) := by omega
        have h0N : (0 : Int) ≤ (j : Int) := by omega
        by_cases e : y = z
        · subst e
          have HT := Lib.hid (take_same HK.out h1 h2)
          have e1 : (y != y) = false := by simp
          clear h1 h2
          go_wp2_with fail
          go_quiet (fail)
          go_wp2_with fail
          go_roundw
          case rel => exact ⟨j + 1, by go_num, by omega, by (repeat (with_reducible first | exact Ext.refl _ | assumption | refine Ext.drew ?_ | refine Ext.drewN ?_ _ | refine Ext.alloc ?_ _ | refine Ext.trans ?_ (by with_reducible assumption))), HT⟩
          case measure => simp [intOf]; omega
        · have HT := Lib.hid (sameB_no (take_part h1 h2 e))
          have e1 : (y != z) = true := by simp [e]
          clear h1 h2 e
          go_wp2_with fail
          go_quiet (fail)
          go_wp2_with fail
          go_ret
          exact ⟨ret_bool HT.out.symm, by (repeat (with_reducible first | exact Ext.refl _ | assumption | refine Ext.drew ?_ | refine Ext.drewN ?_ _ | refine Ext.alloc ?_ _ | refine Ext.trans ?_ (by with_reducible assumption)))⟩
      · obtain rfl : j = n := by omega
        have HT := Lib.hid (sameB_yes (take_whole HK.out HX.out HY.out))
        go_wp2_with fail
        go_ret
        exact ⟨ret_bool HT.out.symm, by (repeat (with_reducible first | exact Ext.refl _ | assumption | refine Ext.drew ?_ | refine Ext.drewN ?_ _ | refine Ext.alloc ?_ _ | refine Ext.trans ?_ (by with_reducible assumption)))⟩
  · have HT : Hid (sameB xs ys = false) := sameB_no (by intro e; rw [e, HY.out] at HX; exact hn HX.out.symm)
    have e1 : ((n : Int) != (n' : Int)) = true := by simp; omega
    clear hn
    go_enter Tryd.func17, Tryd.ntmps17
    go_wp2_with fail
    go_ret
    exact ⟨ret_bool HT.out.symm, by (repeat (with_reducible first | exact Ext.refl _ | assumption | refine Ext.drew ?_ | refine Ext.drewN ?_ _ | refine Ext.alloc ?_ _ | refine Ext.trans ?_ (by with_reducible assumption)))⟩
end Go.Proofs.YtmknpehjncpekaaDoor
