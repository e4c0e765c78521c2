/- Two lists of one root: where they clash. The references' Clash, the program's Collide. -/
import Derived.Test.YtgfkalhpefjenaaDoorR6
import Derived.Test.YtgfkalhpefjenaaDoorTot
import Derived.Lib.SlicesS
import Derived.BigRegion
namespace Go.Proofs.YtgfkalhpefjenaaDoor
open Go.RowKit Go.WideShapes
set_option linter.unusedVariables false
attribute [local go_sem ↓] Go.wp_at_zero Go.wp_at_succ

/-! ### plain -/
def str0 (s : ByteArray) : ByteArray := ⟨#[0]⟩ ++ s
def topB (k : Nat) (a : List ByteArray) : List UInt8 := nodeB (ofL ((sumsD a).take k)) (ofL ((sumsD a).drop k))
def topS (k : Nat) (a : List ByteArray) : ByteArray := ⟨(topB k a).toArray⟩
def clashL (a b : List ByteArray) : ByteArray × ByteArray :=
  if h : 2 ≤ a.length ∧ half a.length < a.length then
    if topB (half a.length) a ≠ topB (half a.length) b then (topS (half a.length) a, topS (half a.length) b)
    else if a.take (half a.length) ≠ b.take (half a.length) then clashL (a.take (half a.length)) (b.take (half a.length))
    else clashL (a.drop (half a.length)) (b.drop (half a.length))
  else (str0 (a.headD ⟨#[]⟩), str0 (b.headD ⟨#[]⟩))
termination_by a.length
decreasing_by
  · rw [List.length_take]; omega
  · rw [List.length_drop]; have := half_pos a.length; omega
theorem clashL_one (x y : ByteArray) : clashL [x] [y] = (str0 x, str0 y) := by rw [clashL, dif_neg (by simp)]; rfl
theorem clashL_top {a b : List ByteArray} (h2 : 2 ≤ a.length) (hn : a.length ≤ 4096) (h : topB (half a.length) a ≠ topB (half a.length) b) : clashL a b = (topS (half a.length) a, topS (half a.length) b) := by
  rw [clashL, dif_pos ⟨h2, half_lt h2 hn⟩, if_pos h]
theorem clashL_left {a b : List ByteArray} (h2 : 2 ≤ a.length) (hn : a.length ≤ 4096) (h : topB (half a.length) a = topB (half a.length) b) (h' : a.take (half a.length) ≠ b.take (half a.length)) : clashL a b = clashL (a.take (half a.length)) (b.take (half a.length)) := by
  rw [clashL, dif_pos ⟨h2, half_lt h2 hn⟩, if_neg (not_not_intro h), if_pos h']
theorem clashL_right {a b : List ByteArray} (h2 : 2 ≤ a.length) (hn : a.length ≤ 4096) (h : topB (half a.length) a = topB (half a.length) b) (h' : a.take (half a.length) = b.take (half a.length)) : clashL a b = clashL (a.drop (half a.length)) (b.drop (half a.length)) := by
  rw [clashL, dif_pos ⟨h2, half_lt h2 hn⟩, if_neg (not_not_intro h), if_neg (not_not_intro h')]
theorem topS_ne {k : Nat} {a b : List ByteArray} (h : topB k a ≠ topB k b) : (topS k a).toList ≠ (topS k b).toList := by
  intro e
  apply h
  have h1 := congrArg ByteArray.toList (rfl : topS k a = topS k a)
  have h2 : topS k a = topS k b := by
    have := (Lib.bytes_beq_false_iff (topS k a) (topS k b))
    rcases Classical.em (topS k a = topS k b) with he | he
    · exact he
    · have h3 := this.2 he
      rw [e] at h3
      simp at h3
  have h4 := congrArg (fun s : ByteArray => s.data.toList) h2
  simpa [topS] using h4

/-! ### the references' -/
set_option maxRecDepth 100000 in
theorem Rsame_any (A A' : Option Addr) (n c c' : Nat) (xs ys : List ByteArray) (w : World) (hr : Rd w 1 A n c (xs.map Value.string)) (hr' : Rd w 1 A' n c' (ys.map Value.string)) (hm : c ≤ maxLen) (hm' : c' ≤ maxLen) :
    Calls Tryd.prog 119 #[.slice A n c, .slice A' n c'] w fun e w' => e = .returned (.bool (sameB xs ys)) ∧ Ext w w' := by
  have HX := Lib.hid hr.lenS
  have HY := Lib.hid hr'.lenS
  have hl := hr.2.1
  have hl' := hr'.2.1
  unfold maxLen at hm hm'
  go_enter Tryd.func119, Tryd.ntmps119
  go_wp2_with fail
  go_loopw [5] (fun x wr => ∃ j : Nat, x = .int .i64 j ∧ j ≤ n ∧ Ext w wr ∧ Hid (xs.take j = ys.take j)) (fun x _ => n - (intOf x).toNat)
  case atStart => exact ⟨0, rfl, Nat.zero_le _, by (repeat (with_reducible first | exact Ext.refl _ | assumption | refine Ext.drew ?_ | refine Ext.drewN ?_ _ | refine Ext.alloc ?_ _ | refine Ext.trans ?_ (by with_reducible assumption))), rfl⟩
  case round =>
    obtain ⟨j, rfl, hj, hbw, HK⟩ := hrel
    by_cases hc : j < n
    · have h1 := List.getElem?_eq_getElem (l := xs) (i := j) (by rw [HX.out]; exact hc)
      have h2 := List.getElem?_eq_getElem (l := ys) (i := j) (by rw [HY.out]; exact hc)
      generalize xs[j]'(by rw [HX.out]; exact hc) = y at *
      generalize ys[j]'(by rw [HY.out]; exact hc) = z at *
      obtain ⟨ad, rfl, hb, c0⟩ := (hr.ext hbw).getS h1
      obtain ⟨ad', rfl, hb', c0'⟩ := (hr'.ext hbw).getS h2
      have hcN : (j : Int) < (n : Int) := by omega
      have h0N : (0 : Int) ≤ (j : Int) := by omega
      by_cases e : y = z
      · subst e
        have HT := Lib.hid (take_same HK.out h1 h2)
        clear h1 h2
        go_wp2_with fail
        go_quiet (fail)
        go_wp2_with fail
        go_roundw
        case rel => exact ⟨j + 1, by go_num, by omega, by (repeat (with_reducible first | exact Ext.refl _ | assumption | refine Ext.drew ?_ | refine Ext.drewN ?_ _ | refine Ext.alloc ?_ _ | refine Ext.trans ?_ (by with_reducible assumption))), HT⟩
        case measure => simp [intOf]; omega
      · have HT := Lib.hid (sameB_no (take_part h1 h2 e))
        have e1 := (Lib.bytes_beq_false_iff y z).2 e
        clear h1 h2 e
        go_wp2_with fail
        go_quiet (fail)
        go_wp2_with fail
        go_ret
        exact ⟨ret_bool HT.out.symm, by (repeat (with_reducible first | exact Ext.refl _ | assumption | refine Ext.drew ?_ | refine Ext.drewN ?_ _ | refine Ext.alloc ?_ _ | refine Ext.trans ?_ (by with_reducible assumption)))⟩
    · obtain rfl : j = n := by omega
      have HT := Lib.hid (sameB_yes (take_whole HK.out HX.out HY.out))
      go_wp2_with fail
      go_ret
      exact ⟨ret_bool HT.out.symm, by (repeat (with_reducible first | exact Ext.refl _ | assumption | refine Ext.drew ?_ | refine Ext.drewN ?_ _ | refine Ext.alloc ?_ _ | refine Ext.trans ?_ (by with_reducible assumption)))⟩
end Go.Proofs.YtgfkalhpefjenaaDoor
