import Derived.Test.YtmknpehjncpekaaDoorRows
import Derived.Test.YtmknpehjncpekaaDoorOpen
import Derived.WalkSpells
import Derived.WalkLawsBesides
namespace Go.Proofs.YtmknpehjncpekaaDoor
open Go.RowKit
set_option linter.unusedVariables false


set_option maxRecDepth 100000 in
theorem Sum_any (s : ByteArray) (w : World) (hs : s.size ≤ maxLen) :
    Calls Tryd.prog 65 #[.string s] w fun e w' => e = .returned (.int .i64 (sumL s.data.toList)) ∧ Ext w w' := by
  unfold maxLen at hs
  have hconv := run_bytes_of_string (P := Tryd.prog) w 9 114 5 s Tryd.underlying9 Tryd.underlying114 Tryd.underlying5
  go_enter Tryd.func65, Tryd.ntmps65
  go_wp2
  clear hconv
  have hd := fun (j : Nat) (hj : j < s.data.size) => bytesRow_at s (grownCap w s.size 0 5) j hj
  generalize hC : bytesRow s (grownCap w s.size 0 5) = C at *
  generalize hcp : grownCap w s.size 0 5 = cp at *
  clear hC hcp
  go_loop [3, 9] (fun n i => ∃ k : Nat, k ≤ s.size ∧ i = .int .i64 k ∧ n = .int .i64 (sumL (s.data.toList.take k))) (fun _ i => s.size - (intOf i).toNat)
  case atStart => exact ⟨0, Nat.zero_le _, rfl, rfl⟩
  case round =>
    obtain ⟨k, hk, rfl, rfl⟩ := hrel
    by_cases hlt : k < s.size
    · obtain ⟨hb0, hb1⟩ := sumL_bd (s.data.toList.take k)
      have hb2 : s.data[k].toNat < 256 := UInt8.toNat_lt _
      have hx := (World.cell?_alloc_mark w C 5 (C.size, C.size + 1) k).trans (hd k hlt)
      have hst := sumL_take s.data.toList k hlt
      have HS := Lib.hid hst
      clear hst hd
      go_wp2
      go_round
      case rel => exact ⟨k + 1, by omega, by go_num, by rw [HS.out]; rfl⟩
      case measure => simp [intOf]; omega
    · go_wp2
      go_ret
      exact ⟨ret_int (by rw [List.take_of_length_le (by simp; omega)]), by (repeat (with_reducible first | exact Ext.refl _ | assumption | refine Ext.drew ?_ | refine Ext.drewN ?_ _ | refine Ext.alloc ?_ _ | refine Ext.trans ?_ (by with_reducible assumption)))⟩

end Go.Proofs.YtmknpehjncpekaaDoor
