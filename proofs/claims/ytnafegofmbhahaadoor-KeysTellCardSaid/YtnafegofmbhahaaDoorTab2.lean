/- table: bytes that are appended; four. -/
import Derived.Test.YtnafegofmbhahaaDoorTab
import Derived.Lib.AppendStr
namespace Go.Proofs.YtnafegofmbhahaaDoor
open Go.RowKit Go.WideShapes
set_option linter.unusedVariables false
attribute [local go_sem ↓] Go.wp_at_zero Go.wp_at_succ

theorem info_u8t : (Tryd.prog.info? 5).map (fun i => (i.zero, i.size, i.bytes)) = some (some (.int .u8 0), 1, 1) := by kernel_rfl
def bcells (l : List UInt8) : List Value := l.map fun b => Value.int .u8 b.toNat
theorem bcells_append (a b : List UInt8) : bcells (a ++ b) = bcells a ++ bcells b := by simp [bcells]
theorem bcells_one (l : List UInt8) : ∀ u ∈ bcells l, u.oneCell' = true := by
  intro u hu
  unfold bcells at hu
  rw [List.mem_map] at hu
  obtain ⟨b, _, rfl⟩ := hu
  rfl
theorem bcells_len (l : List UInt8) : (bcells l).length = l.length := by simp [bcells]
/-- bytes that are owned -/
def OwnB (w : World) (base : Nat) (v : Value) (l : List UInt8) : Prop := w.ownsRow base 5 1 v l.length (bcells l)
theorem four_cells (n : Int) (h0 : 0 ≤ n) (h1 : n < 2147483648) : bcells (fourB n) = [.int .u8 (n / 16777216), .int .u8 (n / 65536 % 256), .int .u8 (n / 256 % 256), .int .u8 (n % 256)] := by
  unfold bcells fourB
  simp only [List.map_cons, List.map_nil]
  rw [toNat_byteOf _ (by omega) (by omega), toNat_byteOf _ (by omega) (by omega), toNat_byteOf _ (by omega) (by omega), toNat_byteOf _ (by omega) (by omega), show n / 16777216 % 256 = n / 16777216 by omega]

set_option maxRecDepth 100000 in
set_option maxHeartbeats 1000000 in
theorem TFour_any (n : Int) (v : Value) (base : Nat) (l : List UInt8) (w : World) (h0 : 0 ≤ n) (h1 : n < 2147483648) (hb : base ≤ w.heap.size) (hm : l.length ≤ 100000000000) (hown : OwnB w base v l) :
    Calls Tryd.prog 67 #[v, .int .i64 n] w fun e w' => (∃ v', e = .returned v' ∧ OwnB w' base v' (l ++ fourB n)) ∧ w.grownBy w' v.ownBlock := by
  obtain ⟨i0, hi0, hz0, hz1, hz2⟩ := info_parts info_u8t
  have hO := Lib.hid hown
  have HF := Lib.hid (four_cells n h0 h1)
  have HL : (l ++ fourB n).length = l.length + 4 := by rw [List.length_append]; rfl
  have hz : w.heap.size < (w.alloc (.cells #[.int .u8 (n / 16777216), .int .u8 (n / 65536 % 256), .int .u8 (n / 256 % 256), .int .u8 (n % 256)] 5)).heap.size := by simp
  have hal := World.grownBy_alloc w (.cells #[.int .u8 (n / 16777216), .int .u8 (n / 65536 % 256), .int .u8 (n / 256 % 256), .int .u8 (n % 256)] 5) v.ownBlock
  have hHL := Lib.hid HL
  clear hown HL
  go_enter Tryd.func67, Tryd.ntmps67
  go_wp2_with (at_builtin; go_loud (refine wpList_append_own _ rfl _ _ 93 rfl base 5 i0 _ 1 1 Tryd.underlying93 hi0 hz0 hz1 hz2 rfl (by omega) v l.length (bcells l) rfl (World.ownsRow.alloc hO.out _) ⟨w.heap.size, 0, none⟩ 4 4 [.int .u8 (n / 16777216), .int .u8 (n / 65536 % 256), .int .u8 (n / 256 % 256), .int .u8 (n % 256)] (by rfl) rfl (news_new w _ _ _ rfl) (by intro u hu; simp at hu; rcases hu with rfl | rfl | rfl | rfl <;> rfl) (by unfold maxLen; omega) (by omega) (by omega) ?_); intro v1 w1 own1 hg1 hH1)
  go_ret
  refine ⟨⟨v1, rfl, ?_⟩, gb_trans hal hg1⟩
  unfold OwnB
  rw [hHL.out, bcells_append, HF.out]
  exact own1
end Go.Proofs.YtnafegofmbhahaaDoor
