import Derived.Test.YtcgfdhgceokcnaaGreatDoorRows
import Derived.Test.YtcgfdhgceokcnaaGreatDoorJWalKeeps1
import Derived.WalkSpells
import Derived.WalkLawsBesides
namespace Go.Proofs.YtcgfdhgceokcnaaGreatDoor
open Go.RowKit
set_option linter.unusedVariables false


theorem conv4 (w : World) (g : Nat) (a b c d : Int) (hg : g = w.heap.size) : (convert 61 9 (.slice (some ⟨g, 0, none⟩) 4 4)).run Tryz.prog (w.alloc (.cells #[.int .u8 a, .int .u8 b, .int .u8 c, .int .u8 d] 5)) = .ok (.string ⟨#[byteOf a, byteOf b, byteOf c, byteOf d]⟩) (w.alloc (.cells #[.int .u8 a, .int .u8 b, .int .u8 c, .int .u8 d] 5)) :=
  run_conv_new w g hg 61 9 5 4 [a, b, c, d] Tryz.underlying61 Tryz.underlying5 Tryz.underlying9

set_option maxRecDepth 100000 in
theorem four_any (n : Int) (w : World) (h0 : 0 ≤ n) :
    Calls Tryz.prog 124 #[.int .i64 n] w fun e w' => e = .returned (.string ⟨(fourB n).toArray⟩) ∧ Ext w w' := by
  have hk := conv4
  go_enter Tryz.func124, Tryz.ntmps124
  go_wp2
  go_ret
  exact ⟨rfl, by (repeat (with_reducible first | exact Ext.refl _ | assumption | refine Ext.drew ?_ | refine Ext.drewN ?_ _ | refine Ext.alloc ?_ _ | refine Ext.trans ?_ (by with_reducible assumption)))⟩

set_option maxRecDepth 100000 in
theorem Leaf_any (s : ByteArray) (w : World) (hs : s.size ≤ 140737488355328) :
    Calls Tryz.prog 49 #[.string s] w fun e w' => e = .returned (.int .i64 (leafL s.data.toList)) ∧ Ext w w' := by
  go_enter Tryz.func49, Tryz.ntmps49
  go_wp2_with (go_at_call 80; refine (Sum_any _ _ (by first | omega | ((try simp only [size_cat]); (try simp only [size_mk]); (try simp only [List.length_append]); (try simp only [List.length_cons]); (try simp only [List.length_nil]); (try unfold maxLen); omega))).mono ?_; rintro e w1 ⟨rfl, hb1⟩)
  go_ret
  exact ⟨ret_int (by simp [leafL]), by (repeat (with_reducible first | exact Ext.refl _ | assumption | refine Ext.drew ?_ | refine Ext.drewN ?_ _ | refine Ext.alloc ?_ _ | refine Ext.trans ?_ (by with_reducible assumption)))⟩


set_option maxRecDepth 100000 in
theorem BytesOf_any (a b : Int) (w : World) (ha : 0 ≤ a) (hb : 0 ≤ b) :
    Calls Tryz.prog 108 #[.int .i64 a, .int .i64 b] w fun e w' => e = .returned (.string ⟨(nodeB a b).toArray⟩) ∧ Ext w w' := by
  go_enter Tryz.func108, Tryz.ntmps108
  go_wp2_with fail
  refine (four_any _ _ ha).mono ?_
  rintro e w1 ⟨rfl, hb1⟩
  have hl1 := size_mk (fourB a)
  have hl2 := size_mk (fourB b)
  rw [fourB_len] at hl1 hl2
  have HQ : Hid ((⟨#[1]⟩ : ByteArray) ++ ⟨(fourB a).toArray⟩ ++ ⟨(fourB b).toArray⟩ = ⟨(nodeB a b).toArray⟩) := by
    show _ = _
    rfl
  generalize (⟨(fourB a).toArray⟩ : ByteArray) = x at *
  go_wp2_with fail
  refine (four_any _ _ hb).mono ?_
  rintro e w2 ⟨rfl, hb2⟩
  generalize (⟨(fourB b).toArray⟩ : ByteArray) = y at *
  go_wp2_with fail
  go_ret
  exact ⟨ret_str HQ.out, by (repeat (with_reducible first | exact Ext.refl _ | assumption | refine Ext.drew ?_ | refine Ext.drewN ?_ _ | refine Ext.alloc ?_ _ | refine Ext.trans ?_ (by with_reducible assumption)))⟩

theorem NodeOf_any (a b : Int) (w : World) (ha : 0 ≤ a) (hb : 0 ≤ b) :
    Calls Tryz.prog 89 #[.int .i64 a, .int .i64 b] w fun e w' => e = .returned (.int .i64 (nodeL a b)) ∧ Ext w w' := by
  go_enter Tryz.func89, Tryz.ntmps89
  go_wp2_with fail
  refine (BytesOf_any _ _ _ ha hb).mono ?_
  rintro e w1 ⟨rfl, hb1⟩
  have hl := size_mk (nodeB a b)
  rw [nodeB_len] at hl
  have HN : Hid (sumL (⟨(nodeB a b).toArray⟩ : ByteArray).data.toList = nodeL a b) := rfl
  generalize (⟨(nodeB a b).toArray⟩ : ByteArray) = x at *
  go_wp2_with fail
  refine (Sum_any _ _ (by simp only [maxLen]; omega)).mono ?_
  rintro e w2 ⟨rfl, hb2⟩
  rw [HN.out]
  go_wp2_with fail
  go_ret
  exact ⟨rfl, by (repeat (with_reducible first | exact Ext.refl _ | assumption | refine Ext.drew ?_ | refine Ext.drewN ?_ _ | refine Ext.alloc ?_ _ | refine Ext.trans ?_ (by with_reducible assumption)))⟩
end Go.Proofs.YtcgfdhgceokcnaaGreatDoor

/- which numbers are sums. -/
namespace Go.Proofs.YtcgfdhgceokcnaaGreatDoor
open Go.RowKit
set_option linter.unusedVariables false

set_option maxRecDepth 100000 in
theorem Valid_any (n : Int) (w : World) : Calls Tryz.prog 56 #[.int .i64 n] w fun e w' => e = .returned (.bool (vld n)) ∧ w = w' := by
  by_cases h0 : 0 ≤ n
  · by_cases h1 : n < 2147483647
    · have hv := ret_bool (vld_mk ⟨h0, h1⟩).symm
      have HV := Lib.hid hv
      clear hv
      go_enter Tryz.func56, Tryz.ntmps56
      go_wp2
      go_ret
      exact ⟨HV.out, rfl⟩
    · have hv := ret_bool (vld_not (n := n) (by omega)).symm
      have HV := Lib.hid hv
      clear hv
      go_enter Tryz.func56, Tryz.ntmps56
      go_wp2
      go_ret
      exact ⟨HV.out, rfl⟩
  · have hv := ret_bool (vld_not (n := n) (by omega)).symm
    have HV := Lib.hid hv
    clear hv
    have h0' : n < 0 := by omega
    clear h0
    go_enter Tryz.func56, Tryz.ntmps56
    go_wp2
    go_ret
    exact ⟨HV.out, rfl⟩
end Go.Proofs.YtcgfdhgceokcnaaGreatDoor

namespace Go.Proofs.YtcgfdhgceokcnaaGreatDoor
open Go.RowKit
set_option linter.unusedVariables false

theorem NodeBytes_ok (a b : Int) (w : World) (ha : vld a = true) (hb : vld b = true) :
    Calls Tryz.prog 79 #[.int .i64 a, .int .i64 b] w fun e w' => e = .returned (.tuple #[.string ⟨(nodeB a b).toArray⟩, .nilIface]) ∧ Ext w w' := by
  go_enter Tryz.func79, Tryz.ntmps79
  go_wp2_with (go_at_call 56; refine (Valid_any _ _).mono ?_; rintro e w' ⟨rfl, rfl⟩)
  refine (BytesOf_any _ _ _ (vld_true ha).1 (vld_true hb).1).mono ?_
  rintro e w1 ⟨rfl, hb1⟩
  go_wp2_with fail
  go_ret2
  exact ⟨rfl, by (repeat (with_reducible first | exact Ext.refl _ | assumption | refine Ext.drew ?_ | refine Ext.drewN ?_ _ | refine Ext.alloc ?_ _ | refine Ext.trans ?_ (by with_reducible assumption)))⟩
theorem NodeBytes_bad (a b : Int) (w : World) (h : ¬ (vld a = true ∧ vld b = true)) :
    Calls Tryz.prog 79 #[.int .i64 a, .int .i64 b] w fun e w' => e = .returned (.tuple #[.string ⟨#[]⟩, errV 1]) ∧ Ext w w' := by
  cases ha : vld a
  · clear h
    go_enter Tryz.func79, Tryz.ntmps79
    go_wp2_with (go_at_call 56; refine (Valid_any _ _).mono ?_; rintro e w' ⟨rfl, rfl⟩)
    go_ret2
    exact ⟨rfl, by (repeat (with_reducible first | exact Ext.refl _ | assumption | refine Ext.drew ?_ | refine Ext.drewN ?_ _ | refine Ext.alloc ?_ _ | refine Ext.trans ?_ (by with_reducible assumption)))⟩
  · have hb : vld b = false := by
      cases hb : vld b
      · rfl
      · exact absurd ⟨ha, hb⟩ h
    clear h
    go_enter Tryz.func79, Tryz.ntmps79
    go_wp2_with (go_at_call 56; refine (Valid_any _ _).mono ?_; rintro e w' ⟨rfl, rfl⟩)
    go_ret2
    exact ⟨rfl, by (repeat (with_reducible first | exact Ext.refl _ | assumption | refine Ext.drew ?_ | refine Ext.drewN ?_ _ | refine Ext.alloc ?_ _ | refine Ext.trans ?_ (by with_reducible assumption)))⟩
end Go.Proofs.YtcgfdhgceokcnaaGreatDoor
