import Derived.Test.YtmknpehjncpekaaDoorRows
import Derived.Test.YtmknpehjncpekaaDoorMixS
import Derived.WalkSpells
import Derived.WalkLawsBesides
namespace Go.Proofs.YtmknpehjncpekaaDoor
open Go.RowKit
set_option linter.unusedVariables false


theorem conv4 (w : World) (g : Nat) (a b c d : Int) (hg : g = w.heap.size) : (convert 114 9 (.slice (some ⟨g, 0, none⟩) 4 4)).run Tryd.prog (w.alloc (.cells #[.int .u8 a, .int .u8 b, .int .u8 c, .int .u8 d] 5)) = .ok (.string ⟨#[byteOf a, byteOf b, byteOf c, byteOf d]⟩) (w.alloc (.cells #[.int .u8 a, .int .u8 b, .int .u8 c, .int .u8 d] 5)) :=
  run_conv_new w g hg 114 9 5 4 [a, b, c, d] Tryd.underlying114 Tryd.underlying5 Tryd.underlying9

set_option maxRecDepth 100000 in
theorem four_any (n : Int) (w : World) (h0 : 0 ≤ n) :
    Calls Tryd.prog 108 #[.int .i64 n] w fun e w' => e = .returned (.string ⟨(fourB n).toArray⟩) ∧ Ext w w' := by
  have hk := conv4
  go_enter Tryd.func108, Tryd.ntmps108
  go_wp2
  go_ret
  exact ⟨rfl, by (repeat (with_reducible first | exact Ext.refl _ | assumption | refine Ext.drew ?_ | refine Ext.drewN ?_ _ | refine Ext.alloc ?_ _ | refine Ext.trans ?_ (by with_reducible assumption)))⟩

set_option maxRecDepth 100000 in
theorem Leaf_any (s : ByteArray) (w : World) (hs : s.size ≤ 140737488355328) :
    Calls Tryd.prog 53 #[.string s] w fun e w' => e = .returned (.int .i64 (leafL s.data.toList)) ∧ Ext w w' := by
  go_enter Tryd.func53, Tryd.ntmps53
  go_wp2_with (go_at_call 65; refine (Sum_any _ _ (by first | omega | ((try simp only [size_cat]); (try simp only [size_mk]); (try simp only [List.length_append]); (try simp only [List.length_cons]); (try simp only [List.length_nil]); (try unfold maxLen); omega))).mono ?_; rintro e w1 ⟨rfl, hb1⟩)
  go_ret
  exact ⟨ret_int (by simp [leafL]), by (repeat (with_reducible first | exact Ext.refl _ | assumption | refine Ext.drew ?_ | refine Ext.drewN ?_ _ | refine Ext.alloc ?_ _ | refine Ext.trans ?_ (by with_reducible assumption)))⟩


set_option maxRecDepth 100000 in
theorem BytesOf_any (a b : Int) (w : World) (ha : 0 ≤ a) (hb : 0 ≤ b) :
    Calls Tryd.prog 91 #[.int .i64 a, .int .i64 b] w fun e w' => e = .returned (.string ⟨(nodeB a b).toArray⟩) ∧ Ext w w' := by
  go_enter Tryd.func91, Tryd.ntmps91
  go_wp2_with fail
  refine (four_any _ _ ha).mono ?_
  rintro e w1 ⟨rfl, hb1⟩
  have hl1 := size_mk (fourB a)
  have hl2 := size_mk (fourB b)
  rw [fourB_len] at hl1 hl2
  have HQ : Hid ((⟨#[1]⟩ : ByteArray) ++ ⟨(fourB a).toArray⟩ ++ ⟨(fourB b).toArray⟩ = ⟨(nodeB a b).toArray⟩) := by
    show _ = _
    rfl
  generalize (⟨(fourB a).toArray⟩ : ByteArray) = x at *
  go_wp2_with fail
  refine (four_any _ _ hb).mono ?_
  rintro e w2 ⟨rfl, hb2⟩
  generalize (⟨(fourB b).toArray⟩ : ByteArray) = y at *
  go_wp2_with fail
  go_ret
  exact ⟨ret_str HQ.out, by (repeat (with_reducible first | exact Ext.refl _ | assumption | refine Ext.drew ?_ | refine Ext.drewN ?_ _ | refine Ext.alloc ?_ _ | refine Ext.trans ?_ (by with_reducible assumption)))⟩

theorem NodeOf_any (a b : Int) (w : World) (ha : 0 ≤ a) (hb : 0 ≤ b) :
    Calls Tryd.prog 67 #[.int .i64 a, .int .i64 b] w fun e w' => e = .returned (.int .i64 (nodeL a b)) ∧ Ext w w' := by
  go_enter Tryd.func67, Tryd.ntmps67
  go_wp2_with fail
  refine (BytesOf_any _ _ _ ha hb).mono ?_
  rintro e w1 ⟨rfl, hb1⟩
  have hl := size_mk (nodeB a b)
  rw [nodeB_len] at hl
  have HN : Hid (sumL (⟨(nodeB a b).toArray⟩ : ByteArray).data.toList = nodeL a b) := rfl
  generalize (⟨(nodeB a b).toArray⟩ : ByteArray) = x at *
  go_wp2_with fail
  refine (Sum_any _ _ (by simp only [maxLen]; omega)).mono ?_
  rintro e w2 ⟨rfl, hb2⟩
  rw [HN.out]
  go_wp2_with fail
  go_ret
  exact ⟨rfl, by (repeat (with_reducible first | exact Ext.refl _ | assumption | refine Ext.drew ?_ | refine Ext.drewN ?_ _ | refine Ext.alloc ?_ _ | refine Ext.trans ?_ (by with_reducible assumption)))⟩
end Go.Proofs.YtmknpehjncpekaaDoor
