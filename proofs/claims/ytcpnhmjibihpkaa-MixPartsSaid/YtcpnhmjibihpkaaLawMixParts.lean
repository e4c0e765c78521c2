import Derived.Test.YtcpnhmjibihpkaaMix
import Derived.OpenShut
namespace Go.Proofs.Ytcpnhmjibihpkaa.mixParts
open Go.RowKit Go.WideShapes
set_option linter.unusedVariables false

theorem conv1 (w : World) (a : Int) : (convert 23 9 (.slice (some ⟨w.heap.size, 0, none⟩) 1 1)).run Try.prog (w.alloc (.cells #[.int .u8 a] 5)) = .ok (.string ⟨#[byteOf a]⟩) (w.alloc (.cells #[.int .u8 a] 5)) :=
  run_conv_new w 23 9 5 1 [a] Try.underlying23 Try.underlying5 Try.underlying9

theorem xor_at : ∀ k : Fin 256, bits .xor .u8 (k.val : Int) 1 = if k.val % 2 = 0 then (k.val : Int) + 1 else (k.val : Int) - 1 := by decide +kernel
theorem xor_u8 (c : Int) (h0 : 0 ≤ c) (h1 : c < 256) : bits .xor .u8 c 1 = if c % 2 = 0 then c + 1 else c - 1 := by
  have h := xor_at ⟨c.toNat, by omega⟩
  have hc : ((c.toNat : Nat) : Int) = c := by omega
  simp only [hc] at h
  rw [h]
  split <;> split <;> omega
theorem xor_ne (l : List UInt8) (c : Int) (h0 : 0 ≤ c) (h1 : c < 256) : (sumL (l ++ [byteOf c]) != sumL (l ++ [byteOf (bits .xor .u8 c 1)])) = true := by
  rw [sumL_snoc, sumL_snoc, bne_iff_ne]
  obtain ⟨b0, b1⟩ := sumL_bd l
  unfold sumStep
  rw [xor_u8 c h0 h1]
  split
  · rw [toNat_byteOf c h0 h1, toNat_byteOf (c + 1) (by omega) (by omega)]
    omega
  · rw [toNat_byteOf c h0 h1, toNat_byteOf (c - 1) (by omega) (by omega)]
    omega
set_option maxRecDepth 100000 in
set_option maxHeartbeats 1000000 in
theorem walk (s : ByteArray) (c : Int) (w : World) (hs : s.size ≤ 140737488355328) (hc : (Lit.int .u8 c).wf = true) :
    Calls Try.prog 3 #[.string s, .int .u8 c] w fun e w' => e = .returned (.bool true) ∧ Ext w w' := by
  obtain ⟨h0, h1'⟩ := bounds_u8 hc
  have h1 : c < 256 := by omega
  clear hc h1'
  have e1 : (leafL [] == sumL [0]) = true := by decide
  have e2 : (sumL [97] == sumL [98]) = false := by decide
  have e3 : (sumL (s.data.toList ++ [byteOf c]) != sumL (s.data.toList ++ [byteOf (bits .xor .u8 c 1)])) = true := xor_ne _ c h0 h1
  have e4 : (leafL s.data.toList == sumL (0 :: s.data.toList)) = true := beq_self_eq_true _
  obtain ⟨b0, b1⟩ := sumL_bd s.data.toList
  obtain ⟨b2, b3⟩ := sumL_bd (s.data.toList ++ [byteOf c])
  have hk := fun (w : World) (a : Int) => conv1 w a
  go_enter Try.func3, Try.ntmps3
  go_wp2_with fail
  refine (Leaf_any _ _ (by first | omega | (simp only [size_cat, size_mk, maxLen, List.length_cons, List.length_nil, List.length_append]; omega))).mono ?_
  rintro e w1 ⟨rfl, hb1⟩
  go_wp2_with fail
  refine (Sum_any _ _ (by first | omega | (simp only [size_cat, size_mk, maxLen, List.length_cons, List.length_nil, List.length_append]; omega))).mono ?_
  rintro e w2 ⟨rfl, hb2⟩
  go_wp2_with fail
  refine (Sum_any _ _ (by first | omega | (simp only [size_cat, size_mk, maxLen, List.length_cons, List.length_nil, List.length_append]; omega))).mono ?_
  rintro e w3 ⟨rfl, hb3⟩
  go_wp2_with fail
  refine (Sum_any _ _ (by first | omega | (simp only [size_cat, size_mk, maxLen, List.length_cons, List.length_nil, List.length_append]; omega))).mono ?_
  rintro e w4 ⟨rfl, hb4⟩
  go_wp2_with fail
  refine (Sum_any _ _ (by first | omega | (simp only [size_cat, size_mk, maxLen, List.length_cons, List.length_nil, List.length_append]; omega))).mono ?_
  rintro e w5 ⟨rfl, hb5⟩
  go_wp2_with fail
  refine (Sum_any _ _ (by first | omega | (simp only [size_cat, size_mk, maxLen, List.length_cons, List.length_nil, List.length_append]; omega))).mono ?_
  rintro e w6 ⟨rfl, hb6⟩
  go_wp2_with fail
  refine (Sum_any _ _ (by first | omega | (simp only [size_cat, size_mk, maxLen, List.length_cons, List.length_nil, List.length_append]; omega))).mono ?_
  rintro e w7 ⟨rfl, hb7⟩
  go_wp2_with fail
  refine (Leaf_any _ _ (by first | omega | (simp only [size_cat, size_mk, maxLen, List.length_cons, List.length_nil, List.length_append]; omega))).mono ?_
  rintro e w8 ⟨rfl, hb8⟩
  go_wp2_with fail
  refine (Sum_any _ _ (by first | omega | (simp only [size_cat, size_mk, maxLen, List.length_cons, List.length_nil, List.length_append]; omega))).mono ?_
  rintro e w9 ⟨rfl, hb9⟩
  go_wp2_with fail
  go_ret
  exact ⟨rfl, by (repeat (first | exact Ext.refl _ | assumption | refine Ext.drew ?_ | refine Ext.drewN ?_ _ | refine Ext.alloc ?_ _ | refine Ext.trans ?_ (by assumption)))⟩
end Go.Proofs.Ytcpnhmjibihpkaa.mixParts
