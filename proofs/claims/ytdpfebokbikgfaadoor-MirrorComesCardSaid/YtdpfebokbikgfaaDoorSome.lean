import Derived.Test.YtdpfebokbikgfaaDoorLeafs
import Derived.Test.YtdpfebokbikgfaaDoorDig
namespace Go.Proofs.YtdpfebokbikgfaaDoor
open Go.RowKit
set_option linter.unusedVariables false
attribute [local go_sem ↓] Go.wp_at_zero Go.wp_at_succ

def someE (j : Nat) : Ent := ⟨(j : Int), digB j⟩
def someL (n : Nat) : List Ent := (List.range n).map someE
theorem someL_snoc (n : Nat) : someL (n + 1) = someL n ++ [someE n] := by simp [someL, List.range_succ]
theorem someL_len (n : Nat) : (someL n).length = n := by simp [someL]
theorem someL_ok (n : Nat) (h : n ≤ 200) : entsOk (someL n) := by
  refine ⟨by rw [someL_len]; exact h, fun e he => ?_⟩
  unfold someL at he
  rw [List.mem_map] at he
  obtain ⟨j, hj, rfl⟩ := he
  rw [List.mem_range] at hj
  have := digB_size j j (Nat.le_refl _)
  exact ⟨by show (0 : Int) ≤ (j : Int); omega, by show (j : Int) ≤ 1000000; omega, by show (digB j).size ≤ 200; omega⟩

set_option maxRecDepth 100000 in
set_option maxHeartbeats 1000000 in
theorem some_any (n : Nat) (w : World) (hn : n ≤ 200) :
    Calls Tryd.prog 18 #[.int .i64 n] w fun e w' => (∃ v, e = .returned v ∧ w'.ownsRow w.heap.size 42 2 v n ((someL n).flatMap Ent.cells)) ∧ Ext w w' := by
  obtain ⟨i0, hi0, hz0, hz1, hz2⟩ := info_parts info_ent
  go_enter Tryd.func18, Tryd.ntmps18
  go_wp2_with fail
  go_loopw [3, 4] (fun v x wr => ∃ j : Nat, x = .int .i64 j ∧ j ≤ n ∧ Ext w wr ∧ Hid (wr.ownsRow w.heap.size 42 2 v j ((someL j).flatMap Ent.cells))) (fun _ x _ => n - (intOf x).toNat)
  case atStart => exact ⟨0, rfl, Nat.zero_le _, by (repeat (with_reducible first | exact Ext.refl _ | assumption | refine Ext.drew ?_ | refine Ext.drewN ?_ _ | refine Ext.alloc ?_ _ | refine Ext.trans ?_ (by with_reducible assumption))), own_nil _ _ _ _⟩
  case round =>
    obtain ⟨j, rfl, hj, hbw, hown⟩ := hrel
    by_cases hc : j < n
    · have HT : Hid ((someL (j + 1)).flatMap Ent.cells = (someL j).flatMap Ent.cells ++ (someE j).cells) := by
        show _ = _
        rw [someL_snoc, List.flatMap_append]; simp
      have hbw0 := hbw.size
      go_wp2_with fail
      refine (RDigits_any j j _ (Nat.le_refl _) (by omega)).mono ?_
      rintro _ w1 ⟨rfl, hb1⟩
      have hs1 := hb1.size
      go_wp2_with (at_builtin; refine wpl_app (by rfl) _ _ _ (by rfl) w.heap.size 42 i0 _ 2 24 Tryd.underlying22 hi0 hz0 hz1 hz2 rfl (by omega) _ _ _ (by rfl) ((own_ext hown.out (by (repeat (with_reducible first | exact Ext.refl _ | assumption | refine Ext.drew ?_ | refine Ext.drewN ?_ _ | refine Ext.alloc ?_ _ | refine Ext.trans ?_ (by with_reducible assumption))))).alloc _) w1.heap.size 1 (someE j).cells rfl (by rfl) (news_new w1 _ _ _ rfl) (oneE _) (by omega) (by omega) (by simp; omega) ?_; intro g cap w3 own3 hext3)
      go_roundw
      case rel => exact ⟨j + 1, by go_num, by omega, hext3 _ (Nat.le_refl _) (by (repeat (with_reducible first | exact Ext.refl _ | assumption | refine Ext.drew ?_ | refine Ext.drewN ?_ _ | refine Ext.alloc ?_ _ | refine Ext.trans ?_ (by with_reducible assumption)))), by rw [HT.out]; exact own3⟩
      case measure => simp [intOf]; omega
    · obtain rfl : j = n := by omega
      go_wp2_with fail
      go_ret
      exact ⟨⟨_, rfl, hown.out⟩, by (repeat (with_reducible first | exact Ext.refl _ | assumption | refine Ext.drew ?_ | refine Ext.drewN ?_ _ | refine Ext.alloc ?_ _ | refine Ext.trans ?_ (by with_reducible assumption)))⟩
end Go.Proofs.YtdpfebokbikgfaaDoor
