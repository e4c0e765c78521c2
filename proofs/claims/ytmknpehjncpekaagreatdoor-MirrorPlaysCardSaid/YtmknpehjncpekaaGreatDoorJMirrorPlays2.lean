import Derived.Test.YtmknpehjncpekaaGreatDoorRows
import Derived.Test.YtmknpehjncpekaaGreatDoorJMirrorPlays1
import Derived.WalkSpells
import Derived.WalkLawsBesides
namespace Go.Proofs.YtmknpehjncpekaaGreatDoor
open Go.RowKit
set_option linter.unusedVariables false


theorem conv4 (w : World) (g : Nat) (a b c d : Int) (hg : g = w.heap.size) : (convert 105 9 (.slice (some ⟨g, 0, none⟩) 4 4)).run Tryz.prog (w.alloc (.cells #[.int .u8 a, .int .u8 b, .int .u8 c, .int .u8 d] 5)) = .ok (.string ⟨#[byteOf a, byteOf b, byteOf c, byteOf d]⟩) (w.alloc (.cells #[.int .u8 a, .int .u8 b, .int .u8 c, .int .u8 d] 5)) :=
  run_conv_new w g hg 105 9 5 4 [a, b, c, d] Tryz.underlying105 Tryz.underlying5 Tryz.underlying9

set_option maxRecDepth 100000 in
theorem four_any (n : Int) (w : World) (h0 : 0 ≤ n) :
    Calls Tryz.prog 94 #[.int .i64 n] w fun e w' => e = .returned (.string ⟨(fourB n).toArray⟩) ∧ Ext w w' := by
  have hk := conv4
  go_enter Tryz.func94, Tryz.ntmps94
  go_wp2
  go_ret
  exact ⟨rfl, by (repeat (with_reducible first | exact Ext.refl _ | assumption | refine Ext.drew ?_ | refine Ext.drewN ?_ _ | refine Ext.alloc ?_ _ | refine Ext.trans ?_ (by with_reducible assumption)))⟩

set_option maxRecDepth 100000 in
theorem Leaf_any (s : ByteArray) (w : World) (hs : s.size ≤ 140737488355328) :
    Calls Tryz.prog 74 #[.string s] w fun e w' => e = .returned (.int .i64 (leafL s.data.toList)) ∧ Ext w w' := by
  go_enter Tryz.func74, Tryz.ntmps74
  go_wp2_with (go_at_call 56; refine (Sum_any _ _ (by first | omega | ((try simp only [size_cat]); (try simp only [size_mk]); (try simp only [List.length_append]); (try simp only [List.length_cons]); (try simp only [List.length_nil]); (try unfold maxLen); omega))).mono ?_; rintro e w1 ⟨rfl, hb1⟩)
  go_ret
  exact ⟨ret_int (by simp [leafL]), by (repeat (with_reducible first | exact Ext.refl _ | assumption | refine Ext.drew ?_ | refine Ext.drewN ?_ _ | refine Ext.alloc ?_ _ | refine Ext.trans ?_ (by with_reducible assumption)))⟩


set_option maxRecDepth 100000 in
theorem BytesOf_any (a b : Int) (w : World) (ha : 0 ≤ a) (hb : 0 ≤ b) :
    Calls Tryz.prog 85 #[.int .i64 a, .int .i64 b] w fun e w' => e = .returned (.string ⟨(nodeB a b).toArray⟩) ∧ Ext w w' := by
  go_enter Tryz.func85, Tryz.ntmps85
  go_wp2_with fail
  refine (four_any _ _ ha).mono ?_
  rintro e w1 ⟨rfl, hb1⟩
  have hl1 := size_mk (fourB a)
  have hl2 := size_mk (fourB b)
  rw [fourB_len] at hl1 hl2
  have HQ : Hid ((⟨#[1]⟩ : ByteArray) ++ ⟨(fourB a).toArray⟩ ++ ⟨(fourB b).toArray⟩ = ⟨(nodeB a b).toArray⟩) := by
    show _ = _
    rfl
  generalize (⟨(fourB a).toArray⟩ : ByteArray) = x at *
  go_wp2_with fail
  refine (four_any _ _ hb).mono ?_
  rintro e w2 ⟨rfl, hb2⟩
  generalize (⟨(fourB b).toArray⟩ : ByteArray) = y at *
  go_wp2_with fail
  go_ret
  exact ⟨ret_str HQ.out, by (repeat (with_reducible first | exact Ext.refl _ | assumption | refine Ext.drew ?_ | refine Ext.drewN ?_ _ | refine Ext.alloc ?_ _ | refine Ext.trans ?_ (by with_reducible assumption)))⟩

theorem NodeOf_any (a b : Int) (w : World) (ha : 0 ≤ a) (hb : 0 ≤ b) :
    Calls Tryz.prog 71 #[.int .i64 a, .int .i64 b] w fun e w' => e = .returned (.int .i64 (nodeL a b)) ∧ Ext w w' := by
  go_enter Tryz.func71, Tryz.ntmps71
  go_wp2_with fail
  refine (BytesOf_any _ _ _ ha hb).mono ?_
  rintro e w1 ⟨rfl, hb1⟩
  have hl := size_mk (nodeB a b)
  rw [nodeB_len] at hl
  have HN : Hid (sumL (⟨(nodeB a b).toArray⟩ : ByteArray).data.toList = nodeL a b) := rfl
  generalize (⟨(nodeB a b).toArray⟩ : ByteArray) = x at *
  go_wp2_with fail
  refine (Sum_any _ _ (by simp only [maxLen]; omega)).mono ?_
  rintro e w2 ⟨rfl, hb2⟩
  rw [HN.out]
  go_wp2_with fail
  go_ret
  exact ⟨rfl, by (repeat (with_reducible first | exact Ext.refl _ | assumption | refine Ext.drew ?_ | refine Ext.drewN ?_ _ | refine Ext.alloc ?_ _ | refine Ext.trans ?_ (by with_reducible assumption)))⟩
end Go.Proofs.YtmknpehjncpekaaGreatDoor

namespace Go.Proofs.YtmknpehjncpekaaGreatDoor
open Go.RowKit
set_option linter.unusedVariables false

/-- an error of package api -/
def errV (n : Int) : Value := .iface 52 (.int .i64 n)
/-- an error by its number: 0 is none -/
def errR (n : Int) : Value := if n = 0 then .nilIface else errV n
theorem errR_0 : errR 0 = .nilIface := rfl
theorem errR_ne {n : Int} (h : n ≠ 0) : errR n = errV n := if_neg h
/-- is there an error? -/
def isOk (k : Int) : Bool := decide (k = 0)
theorem isOk_yes {k : Int} (h : k = 0) : isOk k = true := decide_eq_true h
theorem isOk_no {k : Int} (h : k ≠ 0) : isOk k = false := decide_eq_false h
theorem isOk_true {k : Int} (h : isOk k = true) : k = 0 := of_decide_eq_true h
theorem isOk_false {k : Int} (h : isOk k = false) : k ≠ 0 := of_decide_eq_false h
theorem eql_errR (k : Int) (w : World) : (binOp .eql 28 (errR k) .nilIface).run Tryz.prog w = .ok (.bool (isOk k)) w := by
  by_cases h : k = 0
  · rw [isOk_yes h, h, errR_0]; kernel_rfl
  · rw [errR_ne h, isOk_no h]
    exact run_eql_held_nil _ 28 _ _ (by kernel_rfl)
theorem neq_errR (k : Int) (w : World) : (binOp .neq 28 (errR k) .nilIface).run Tryz.prog w = .ok (.bool (!isOk k)) w := by
  by_cases h : k = 0
  · rw [isOk_yes h, h, errR_0]; kernel_rfl
  · rw [errR_ne h, isOk_no h]
    exact run_neq_held_nil _ 28 _ _ (by kernel_rfl)
theorem guard_errR (op : BinOp) (t : TypeId) (x : Operand) (c : Value) (k : Int) : eqGuard op t x (.const c) (errR k) .nilIface = pure () := by
  by_cases h : k = 0
  · rw [h, errR_0]; exact eqGuard_nil_constR _ _ _ _
  · rw [errR_ne h]; exact eqGuard_at_iface _ _ _ _ _ _ _
/-- what the walk wants of them -/
theorem errR_rules : (∀ (k : Int) (w : World), (binOp .eql 28 (errR k) .nilIface).run Tryz.prog w = .ok (.bool (isOk k)) w) ∧ (∀ (k : Int) (w : World), (binOp .neq 28 (errR k) .nilIface).run Tryz.prog w = .ok (.bool (!isOk k)) w) ∧ (∀ (op : BinOp) (t : TypeId) (x : Operand) (c : Value) (k : Int), eqGuard op t x (.const c) (errR k) .nilIface = pure ()) := ⟨eql_errR, neq_errR, guard_errR⟩

end Go.Proofs.YtmknpehjncpekaaGreatDoor

/- which numbers are sums. -/
namespace Go.Proofs.YtmknpehjncpekaaGreatDoor
open Go.RowKit
set_option linter.unusedVariables false

set_option maxRecDepth 100000 in
theorem Valid_any (n : Int) (w : World) : Calls Tryz.prog 50 #[.int .i64 n] w fun e w' => e = .returned (.bool (vld n)) ∧ w = w' := by
  by_cases h0 : 0 ≤ n
  · by_cases h1 : n < 2147483647
    · have hv := ret_bool (vld_mk ⟨h0, h1⟩).symm
      have HV := Lib.hid hv
      clear hv
      go_enter Tryz.func50, Tryz.ntmps50
      go_wp2
      go_ret
      exact ⟨HV.out, rfl⟩
    · have hv := ret_bool (vld_not (n := n) (by omega)).symm
      have HV := Lib.hid hv
      clear hv
      go_enter Tryz.func50, Tryz.ntmps50
      go_wp2
      go_ret
      exact ⟨HV.out, rfl⟩
  · have hv := ret_bool (vld_not (n := n) (by omega)).symm
    have HV := Lib.hid hv
    clear hv
    have h0' : n < 0 := by omega
    clear h0
    go_enter Tryz.func50, Tryz.ntmps50
    go_wp2
    go_ret
    exact ⟨HV.out, rfl⟩
end Go.Proofs.YtmknpehjncpekaaGreatDoor
