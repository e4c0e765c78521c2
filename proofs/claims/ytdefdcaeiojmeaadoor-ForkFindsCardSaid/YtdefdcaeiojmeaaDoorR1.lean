/- The references' small functions: which number is a sum, sums of bytes, how many bits, whether two lists are the same. -/
import Derived.Test.YtdefdcaeiojmeaaDoorRHalf
import Derived.Test.YtdefdcaeiojmeaaDoorPeaksPure
import Derived.Lib.SlicesS
namespace Go.Proofs.YtdefdcaeiojmeaaDoor
open Go.RowKit Go.WideShapes
set_option linter.unusedVariables false
attribute [local go_sem ↓] Go.wp_at_zero Go.wp_at_succ

theorem allV_snoc {xs : List Int} {k : Nat} {z : Int} (hz : xs[k]? = some z) : allV (xs.take (k + 1)) = (allV (xs.take k) && vld z) := by
  obtain ⟨h, rfl⟩ := List.getElem?_eq_some_iff.1 hz
  rw [List.take_succ_eq_append_getElem h, allV_append]; simp [allV]
theorem allV_no {xs : List Int} {k : Nat} {z : Int} (hz : xs[k]? = some z) (hv : vld z = false) : allV xs = false := by
  cases h : allV xs
  · rfl
  · rw [allV_get h hz] at hv; cases hv

set_option maxRecDepth 100000 in
theorem RValid_any (n : Int) (w : World) : Calls Tryd.prog 82 #[.int .i64 n] w fun e w' => e = .returned (.bool (vld n)) ∧ w = w' := by
  by_cases h0 : 0 ≤ n
  · by_cases h1 : n < 2147483647
    · have HV := Lib.hid (ret_bool (vld_mk ⟨h0, h1⟩).symm)
      go_enter Tryd.func82, Tryd.ntmps82
      go_wp2
      go_ret
      exact ⟨HV.out, rfl⟩
    · have HV := Lib.hid (ret_bool (vld_not (n := n) (by omega)).symm)
      go_enter Tryd.func82, Tryd.ntmps82
      go_wp2
      go_ret
      exact ⟨HV.out, rfl⟩
  · have HV := Lib.hid (ret_bool (vld_not (n := n) (by omega)).symm)
    have h0' : n < 0 := by omega
    clear h0
    go_enter Tryd.func82, Tryd.ntmps82
    go_wp2
    go_ret
    exact ⟨HV.out, rfl⟩

theorem sumL_takeS (s : ByteArray) (k : Nat) (h : k < s.size) : sumL (s.data.toList.take (k + 1)) = (sumL (s.data.toList.take k) * 131 + (s[k].toNat : Int) + 1) % 2147483647 := sumL_take s.data.toList k h
set_option maxRecDepth 100000 in
theorem RSum_any (s : ByteArray) (w : World) (hs : s.size ≤ maxLen) :
    Calls Tryd.prog 80 #[.string s] w fun e w' => e = .returned (.int .i64 (sumL s.data.toList)) ∧ w = w' := by
  unfold maxLen at hs
  go_enter Tryd.func80, Tryd.ntmps80
  go_wp2_with fail
  go_loop [3, 4] (fun n i => ∃ k : Nat, k ≤ s.size ∧ i = .int .i64 k ∧ n = .int .i64 (sumL (s.data.toList.take k))) (fun _ i => s.size - (intOf i).toNat)
  case atStart => exact ⟨0, Nat.zero_le _, rfl, rfl⟩
  case round =>
    obtain ⟨k, hk, rfl, rfl⟩ := hrel
    by_cases hlt : k < s.size
    · obtain ⟨hb0, hb1⟩ := sumL_bd (s.data.toList.take k)
      have HS := Lib.hid (sumL_takeS s k hlt)
      have hb2 : s[k].toNat < 256 := UInt8.toNat_lt _
      generalize sumL (s.data.toList.take k) = t at *
      go_wp2_with fail
      go_round
      case rel => exact ⟨k + 1, by omega, by go_num, by rw [HS.out]⟩
      case measure => simp [intOf]; omega
    · go_wp2_with fail
      go_ret
      exact ⟨ret_int (by rw [List.take_of_length_le (by simp; omega)]), rfl⟩

theorem ones_step {m : Nat} (h : 0 < m) : ones m = m % 2 + ones (m / 2) := by rw [ones, dif_neg (by omega)]
theorem ones_0 : ones 0 = 0 := by rw [ones, dif_pos rfl]
/-- are two lists the same? -/
def sameB {α : Type} [DecidableEq α] (a b : List α) : Bool := decide (a = b)
theorem sameB_yes {α : Type} [DecidableEq α] {a b : List α} (h : a = b) : sameB a b = true := decide_eq_true h
theorem sameB_no {α : Type} [DecidableEq α] {a b : List α} (h : a ≠ b) : sameB a b = false := decide_eq_false h
theorem sameB_self {α : Type} [DecidableEq α] (a : List α) : sameB a a = true := decide_eq_true rfl
theorem sameB_iff {α : Type} [DecidableEq α] {a b : List α} : sameB a b = true ↔ a = b := by unfold sameB; simp
theorem take_same {α : Type} {a b : List α} {k : Nat} {z : α} (h : a.take k = b.take k) (ha : a[k]? = some z) (hb : b[k]? = some z) : a.take (k + 1) = b.take (k + 1) := by
  obtain ⟨h1, e1⟩ := List.getElem?_eq_some_iff.1 ha
  obtain ⟨h2, e2⟩ := List.getElem?_eq_some_iff.1 hb
  rw [List.take_succ_eq_append_getElem h1, List.take_succ_eq_append_getElem h2, h, e1, e2]
theorem take_part {α : Type} {a b : List α} {k : Nat} {y z : α} (ha : a[k]? = some y) (hb : b[k]? = some z) (h : y ≠ z) : a ≠ b := by
  intro e; rw [e, hb] at ha; injection ha with ha; exact h ha.symm
theorem take_whole {α : Type} {a b : List α} {k : Nat} (h : a.take k = b.take k) (ha : a.length = k) (hb : b.length = k) : a = b := by
  rwa [List.take_of_length_le (by omega), List.take_of_length_le (by omega)] at h

end Go.Proofs.YtdefdcaeiojmeaaDoor
