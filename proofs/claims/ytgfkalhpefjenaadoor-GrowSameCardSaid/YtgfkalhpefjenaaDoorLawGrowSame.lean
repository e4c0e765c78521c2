import Derived.Test.YtgfkalhpefjenaaDoorGCheck
import Derived.Test.YtgfkalhpefjenaaDoorAs
namespace Go.Proofs.YtgfkalhpefjenaaDoor.growSame
open Go.RowKit
set_option linter.unusedVariables false

theorem one_rd (w : World) : Rd (w.alloc (.cells #[.int .i64 1] 3)) 1 (some ⟨w.heap.size, 0, none⟩) 1 1 (([1] : List Int).map (Value.int .i64)) :=
  ⟨rfl, Nat.le_refl _, fun _ => ⟨_, rfl, by simp, news_new w 3 _ _ rfl⟩⟩
theorem g_range (root other n : Int) (p : List Int) (h : ¬ (1 ≤ n ∧ n ≤ 200)) : gcheck root n other n p = 1 := by
  unfold gcheck; rw [if_pos (by omega)]
theorem g_same {root other : Int} {n : Int} (h : 1 ≤ n ∧ n ≤ 200) (h1 : vld root = true) (h2 : vld other = true) : gcheck root n other n [] = if root = other then 0 else 8 := by
  unfold gcheck
  rw [if_neg (by omega), if_neg (not_not_intro ⟨h1, h2, rfl⟩), if_neg (by rw [gsteps_whole]; simp), groots_whole]
  by_cases e : root = other
  · rw [if_pos e, if_neg (by rw [e]; simp)]
  · rw [if_neg e, if_pos (by simp [e])]
theorem g_more {root : Int} {n : Int} (h : 1 ≤ n ∧ n ≤ 200) (h1 : vld root = true) : gcheck root n root n [1] = 3 := by
  unfold gcheck
  rw [if_neg (by omega), if_neg (not_not_intro ⟨h1, h1, by decide⟩), if_pos (by rw [gsteps_whole]; simp)]

set_option maxRecDepth 100000 in
set_option maxHeartbeats 2000000 in
theorem walk (root other n : Int) (w : World) (h0 : igood root) (h1 : igood other) (h2 : igood n) (hg : ErrG w) :
    Calls Tryd.prog 6 #[.int .i64 root, .int .i64 other, .int .i64 n] w fun e w' => e = .returned (.bool true) ∧ Ext w w' := by
  clear h0 h1 h2
  obtain ⟨hE, hN, hG⟩ := errR_rules
  by_cases hr : 0 ≤ root ∧ root < 2147483647 ∧ 0 ≤ other ∧ other < 2147483647
  · obtain ⟨a0, a1, a2, a3⟩ := hr
    have v1 := vld_mk ⟨a0, a1⟩
    have v2 := vld_mk ⟨a2, a3⟩
    by_cases hn : 1 ≤ n ∧ n ≤ 200
    · obtain ⟨n1, n2⟩ := id hn
      have HGM := Lib.hid (g_more hn v1)
      have HGS := Lib.hid (g_same hn v1 v2)
      have H33 : Hid (errIs 3 3 = true) := rfl
      have H88 : Hid (errIs 8 8 = true) := rfl
      clear hn
      by_cases e : root = other
      · subst e
        have HG0 : Hid (errR (gcheck root n root n []) = .nilIface) := by show _ = _; rw [HGS.out, if_pos rfl]; rfl
        have HG3 : Hid (errR (gcheck root n root n [1]) = errR 3) := by show _ = _; rw [HGM.out]
        go_enter Tryd.func6, Tryd.ntmps6
        go_wp2_with fail
        refine (GCheck_any root n root n none 0 0 [] _ (Rd.nil _ _ _ _) (by simp [maxLen])).mono ?_
        rw [HG0.out]
        rintro _ w1 ⟨rfl, hb1⟩
        go_wp2_with fail
        refine (GCheck_any root n root n _ 1 1 [1] _ (one_rd w1) (by simp [maxLen])).mono ?_
        rw [HG3.out]
        rintro _ w2 ⟨rfl, hb2⟩
        have E2 : Ext w w2 := by (repeat (with_reducible first | exact Ext.refl _ | assumption | refine Ext.drew ?_ | refine Ext.drewN ?_ _ | refine Ext.alloc ?_ _ | refine Ext.trans ?_ (by with_reducible assumption)))
        go_wp2_with fail
        refine (Error_any 3 3 _ (hg.ext E2)).mono ?_
        rw [H33.out]
        rintro _ w3 ⟨rfl, hb3⟩
        go_wp2_with fail
        go_ret
        exact ⟨rfl, by (repeat (with_reducible first | exact Ext.refl _ | assumption | refine Ext.drew ?_ | refine Ext.drewN ?_ _ | refine Ext.alloc ?_ _ | refine Ext.trans ?_ (by with_reducible assumption)))⟩
      · have HG0 : Hid (errR (gcheck root n other n []) = errR 8) := by show _ = _; rw [HGS.out, if_neg e]
        have HG3 : Hid (errR (gcheck root n root n [1]) = errR 3) := by show _ = _; rw [HGM.out]
        have e1 : (root == other) = false := by simp [e]
        have e2 : (root != other) = true := by simp [e]
        have H8 : Hid (errR 8 = errV 8) := rfl
        clear e
        go_enter Tryd.func6, Tryd.ntmps6
        go_wp2_with fail
        refine (GCheck_any root n other n none 0 0 [] _ (Rd.nil _ _ _ _) (by simp [maxLen])).mono ?_
        rw [HG0.out]
        rintro _ w1 ⟨rfl, hb1⟩
        go_wp2_with fail
        refine (GCheck_any root n root n _ 1 1 [1] _ (one_rd w1) (by simp [maxLen])).mono ?_
        rw [HG3.out]
        rintro _ w2 ⟨rfl, hb2⟩
        have E2 : Ext w w2 := by (repeat (with_reducible first | exact Ext.refl _ | assumption | refine Ext.drew ?_ | refine Ext.drewN ?_ _ | refine Ext.alloc ?_ _ | refine Ext.trans ?_ (by with_reducible assumption)))
        go_wp2_with fail
        refine (Error_any 3 3 _ (hg.ext E2)).mono ?_
        rw [H33.out]
        rintro _ w3 ⟨rfl, hb3⟩
        have E3 := E2.trans hb3
        go_wp2_with fail
        refine (Error_any 8 8 _ (hg.ext E3)).mono ?_
        rw [H88.out]
        rintro _ w4 ⟨rfl, hb4⟩
        go_wp2_with fail
        go_ret
        exact ⟨rfl, E3.trans hb4⟩
    · have HG1 : Hid (errR (gcheck root n other n []) = errR 1) := by show _ = _; rw [g_range _ _ _ _ hn]
      have H11 : Hid (errIs 1 1 = true) := rfl
      have hn' : n < 1 ∨ (1 ≤ n ∧ 200 < n) := by omega
      clear hn
      rcases hn' with hn | ⟨hn, hn2⟩
      all_goals
        go_enter Tryd.func6, Tryd.ntmps6
        go_wp2_with fail
        refine (GCheck_any root n other n none 0 0 [] _ (Rd.nil _ _ _ _) (by simp [maxLen])).mono ?_
        rw [HG1.out]
        rintro _ w1 ⟨rfl, hb1⟩
        go_wp2_with fail
        refine (Error_any 1 1 _ (hg.ext hb1)).mono ?_
        rw [H11.out]
        rintro _ w2 ⟨rfl, hb2⟩
        go_wp2_with fail
        go_ret
        exact ⟨rfl, by (repeat (with_reducible first | exact Ext.refl _ | assumption | refine Ext.drew ?_ | refine Ext.drewN ?_ _ | refine Ext.alloc ?_ _ | refine Ext.trans ?_ (by with_reducible assumption)))⟩
  · have h' : root < 0 ∨ (0 ≤ root ∧ 2147483647 ≤ root) ∨ (0 ≤ root ∧ root < 2147483647 ∧ other < 0) ∨ (0 ≤ root ∧ root < 2147483647 ∧ 0 ≤ other ∧ 2147483647 ≤ other) := by omega
    clear hr
    rcases h' with h | ⟨h, h1⟩ | ⟨h, h1, h2⟩ | ⟨h, h1, h2, h3⟩
    all_goals
      go_enter Tryd.func6, Tryd.ntmps6
      go_wp2_with fail
      go_ret
      exact ⟨rfl, by (repeat (with_reducible first | exact Ext.refl _ | assumption | refine Ext.drew ?_ | refine Ext.drewN ?_ _ | refine Ext.alloc ?_ _ | refine Ext.trans ?_ (by with_reducible assumption)))⟩
end Go.Proofs.YtgfkalhpefjenaaDoor.growSame
