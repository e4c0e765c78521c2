import Derived.Test.YtdefdcaeiojmeaaGreatDoorRows
import Derived.Test.YtdefdcaeiojmeaaGreatDoorJMirrorPlays0
import Derived.WalkSpells
import Derived.WalkLawsBesides
namespace Go.Proofs.YtdefdcaeiojmeaaGreatDoor
open Go.RowKit
set_option linter.unusedVariables false


set_option maxRecDepth 100000 in
theorem Sum_any (s : ByteArray) (w : World) (hs : s.size ≤ maxLen) :
    Calls Tryz.prog 63 #[.string s] w fun e w' => e = .returned (.int .i64 (sumL s.data.toList)) ∧ Ext w w' := by
  unfold maxLen at hs
  have hconv := run_bytes_of_string (P := Tryz.prog) w 9 158 5 s Tryz.underlying9 Tryz.underlying158 Tryz.underlying5
  go_enter Tryz.func63, Tryz.ntmps63
  go_wp2
  clear hconv
  have hd := fun (j : Nat) (hj : j < s.data.size) => bytesRow_at s (grownCap w s.size 0 5) j hj
  generalize hC : bytesRow s (grownCap w s.size 0 5) = C at *
  generalize hcp : grownCap w s.size 0 5 = cp at *
  clear hC hcp
  go_loop [3, 9] (fun n i => ∃ k : Nat, k ≤ s.size ∧ i = .int .i64 k ∧ n = .int .i64 (sumL (s.data.toList.take k))) (fun _ i => s.size - (intOf i).toNat)
  case atStart => exact ⟨0, Nat.zero_le _, rfl, rfl⟩
  case round =>
    obtain ⟨k, hk, rfl, rfl⟩ := hrel
    by_cases hlt : k < s.size
    · obtain ⟨hb0, hb1⟩ := sumL_bd (s.data.toList.take k)
      have hb2 : s.data[k].toNat < 256 := UInt8.toNat_lt _
      have hx := (World.cell?_alloc_mark w C 5 (C.size, C.size + 1) k).trans (hd k hlt)
      have hst := sumL_take s.data.toList k hlt
      have HS := Lib.hid hst
      clear hst hd
      go_wp2
      go_round
      case rel => exact ⟨k + 1, by omega, by go_num, by rw [HS.out]; rfl⟩
      case measure => simp [intOf]; omega
    · go_wp2
      go_ret
      exact ⟨ret_int (by rw [List.take_of_length_le (by simp; omega)]), by (repeat (with_reducible first | exact Ext.refl _ | assumption | refine Ext.drew ?_ | refine Ext.drewN ?_ _ | refine Ext.alloc ?_ _ | refine Ext.trans ?_ (by with_reducible assumption)))⟩

end Go.Proofs.YtdefdcaeiojmeaaGreatDoor

namespace Go.Proofs.YtdefdcaeiojmeaaGreatDoor
open Go.RowKit
set_option linter.unusedVariables false


theorem conv4 (w : World) (g : Nat) (a b c d : Int) (hg : g = w.heap.size) : (convert 158 9 (.slice (some ⟨g, 0, none⟩) 4 4)).run Tryz.prog (w.alloc (.cells #[.int .u8 a, .int .u8 b, .int .u8 c, .int .u8 d] 5)) = .ok (.string ⟨#[byteOf a, byteOf b, byteOf c, byteOf d]⟩) (w.alloc (.cells #[.int .u8 a, .int .u8 b, .int .u8 c, .int .u8 d] 5)) :=
  run_conv_new w g hg 158 9 5 4 [a, b, c, d] Tryz.underlying158 Tryz.underlying5 Tryz.underlying9

set_option maxRecDepth 100000 in
theorem four_any (n : Int) (w : World) (h0 : 0 ≤ n) :
    Calls Tryz.prog 142 #[.int .i64 n] w fun e w' => e = .returned (.string ⟨(fourB n).toArray⟩) ∧ Ext w w' := by
  have hk := conv4
  go_enter Tryz.func142, Tryz.ntmps142
  go_wp2
  go_ret
  exact ⟨rfl, by (repeat (with_reducible first | exact Ext.refl _ | assumption | refine Ext.drew ?_ | refine Ext.drewN ?_ _ | refine Ext.alloc ?_ _ | refine Ext.trans ?_ (by with_reducible assumption)))⟩

set_option maxRecDepth 100000 in
theorem Leaf_any (s : ByteArray) (w : World) (hs : s.size ≤ 140737488355328) :
    Calls Tryz.prog 51 #[.string s] w fun e w' => e = .returned (.int .i64 (leafL s.data.toList)) ∧ Ext w w' := by
  go_enter Tryz.func51, Tryz.ntmps51
  go_wp2_with (go_at_call 63; refine (Sum_any _ _ (by first | omega | ((try simp only [size_cat]); (try simp only [size_mk]); (try simp only [List.length_append]); (try simp only [List.length_cons]); (try simp only [List.length_nil]); (try unfold maxLen); omega))).mono ?_; rintro e w1 ⟨rfl, hb1⟩)
  go_ret
  exact ⟨ret_int (by simp [leafL]), by (repeat (with_reducible first | exact Ext.refl _ | assumption | refine Ext.drew ?_ | refine Ext.drewN ?_ _ | refine Ext.alloc ?_ _ | refine Ext.trans ?_ (by with_reducible assumption)))⟩


set_option maxRecDepth 100000 in
theorem BytesOf_any (a b : Int) (w : World) (ha : 0 ≤ a) (hb : 0 ≤ b) :
    Calls Tryz.prog 114 #[.int .i64 a, .int .i64 b] w fun e w' => e = .returned (.string ⟨(nodeB a b).toArray⟩) ∧ Ext w w' := by
  go_enter Tryz.func114, Tryz.ntmps114
  go_wp2_with fail
  refine (four_any _ _ ha).mono ?_
  rintro e w1 ⟨rfl, hb1⟩
  have hl1 := size_mk (fourB a)
  have hl2 := size_mk (fourB b)
  rw [fourB_len] at hl1 hl2
  have HQ : Hid ((⟨#[1]⟩ : ByteArray) ++ ⟨(fourB a).toArray⟩ ++ ⟨(fourB b).toArray⟩ = ⟨(nodeB a b).toArray⟩) := by
    show _ = _
    rfl
  generalize (⟨(fourB a).toArray⟩ : ByteArray) = x at *
  go_wp2_with fail
  refine (four_any _ _ hb).mono ?_
  rintro e w2 ⟨rfl, hb2⟩
  generalize (⟨(fourB b).toArray⟩ : ByteArray) = y at *
  go_wp2_with fail
  go_ret
  exact ⟨ret_str HQ.out, by (repeat (with_reducible first | exact Ext.refl _ | assumption | refine Ext.drew ?_ | refine Ext.drewN ?_ _ | refine Ext.alloc ?_ _ | refine Ext.trans ?_ (by with_reducible assumption)))⟩

theorem NodeOf_any (a b : Int) (w : World) (ha : 0 ≤ a) (hb : 0 ≤ b) :
    Calls Tryz.prog 55 #[.int .i64 a, .int .i64 b] w fun e w' => e = .returned (.int .i64 (nodeL a b)) ∧ Ext w w' := by
  go_enter Tryz.func55, Tryz.ntmps55
  go_wp2_with fail
  refine (BytesOf_any _ _ _ ha hb).mono ?_
  rintro e w1 ⟨rfl, hb1⟩
  have hl := size_mk (nodeB a b)
  rw [nodeB_len] at hl
  have HN : Hid (sumL (⟨(nodeB a b).toArray⟩ : ByteArray).data.toList = nodeL a b) := rfl
  generalize (⟨(nodeB a b).toArray⟩ : ByteArray) = x at *
  go_wp2_with fail
  refine (Sum_any _ _ (by simp only [maxLen]; omega)).mono ?_
  rintro e w2 ⟨rfl, hb2⟩
  rw [HN.out]
  go_wp2_with fail
  go_ret
  exact ⟨rfl, by (repeat (with_reducible first | exact Ext.refl _ | assumption | refine Ext.drew ?_ | refine Ext.drewN ?_ _ | refine Ext.alloc ?_ _ | refine Ext.trans ?_ (by with_reducible assumption)))⟩
end Go.Proofs.YtdefdcaeiojmeaaGreatDoor

namespace Go.Proofs.YtdefdcaeiojmeaaGreatDoor
open Go.RowKit
set_option linter.unusedVariables false

/-- an error of package api -/
def errV (n : Int) : Value := .iface 102 (.int .i64 n)
/-- an error by its number: 0 is none -/
def errR (n : Int) : Value := if n = 0 then .nilIface else errV n
theorem errR_0 : errR 0 = .nilIface := rfl
theorem errR_ne {n : Int} (h : n ≠ 0) : errR n = errV n := if_neg h
/-- is there an error? -/
def isOk (k : Int) : Bool := decide (k = 0)
theorem isOk_yes {k : Int} (h : k = 0) : isOk k = true := decide_eq_true h
theorem isOk_no {k : Int} (h : k ≠ 0) : isOk k = false := decide_eq_false h
theorem isOk_true {k : Int} (h : isOk k = true) : k = 0 := of_decide_eq_true h
theorem isOk_false {k : Int} (h : isOk k = false) : k ≠ 0 := of_decide_eq_false h
theorem eql_errR (k : Int) (w : World) : (binOp .eql 26 (errR k) .nilIface).run Tryz.prog w = .ok (.bool (isOk k)) w := by
  by_cases h : k = 0
  · rw [isOk_yes h, h, errR_0]; kernel_rfl
  · rw [errR_ne h, isOk_no h]
    exact run_eql_held_nil _ 26 _ _ (by kernel_rfl)
theorem neq_errR (k : Int) (w : World) : (binOp .neq 26 (errR k) .nilIface).run Tryz.prog w = .ok (.bool (!isOk k)) w := by
  by_cases h : k = 0
  · rw [isOk_yes h, h, errR_0]; kernel_rfl
  · rw [errR_ne h, isOk_no h]
    exact run_neq_held_nil _ 26 _ _ (by kernel_rfl)
theorem guard_errR (op : BinOp) (t : TypeId) (x : Operand) (c : Value) (k : Int) : eqGuard op t x (.const c) (errR k) .nilIface = pure () := by
  by_cases h : k = 0
  · rw [h, errR_0]; exact eqGuard_nil_constR _ _ _ _
  · rw [errR_ne h]; exact eqGuard_at_iface _ _ _ _ _ _ _
/-- what the walk wants of them -/
theorem errR_rules : (∀ (k : Int) (w : World), (binOp .eql 26 (errR k) .nilIface).run Tryz.prog w = .ok (.bool (isOk k)) w) ∧ (∀ (k : Int) (w : World), (binOp .neq 26 (errR k) .nilIface).run Tryz.prog w = .ok (.bool (!isOk k)) w) ∧ (∀ (op : BinOp) (t : TypeId) (x : Operand) (c : Value) (k : Int), eqGuard op t x (.const c) (errR k) .nilIface = pure ()) := ⟨eql_errR, neq_errR, guard_errR⟩

end Go.Proofs.YtdefdcaeiojmeaaGreatDoor
