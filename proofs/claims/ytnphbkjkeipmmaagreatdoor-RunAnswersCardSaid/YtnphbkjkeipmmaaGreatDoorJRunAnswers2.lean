/- The references' look at a proof that a tree has but grown. -/
import Derived.Test.YtnphbkjkeipmmaaGreatDoorJRunBegins29
import Derived.Test.YtnphbkjkeipmmaaGreatDoorJRunBegins14
import Derived.Test.YtnphbkjkeipmmaaGreatDoorJRunBegins1
namespace Go.Proofs.YtnphbkjkeipmmaaGreatDoor
open Go.RowKit Go.WideShapes
set_option linter.unusedVariables false
attribute [local go_sem ↓] Go.wp_at_zero Go.wp_at_succ

theorem errIs_self (k : Int) : errIs k k = true := by unfold errIs; simp
set_option maxRecDepth 100000 in
set_option maxHeartbeats 2000000 in
theorem RGrowCheck_any (r1 o r n : Int) (A : Option Addr) (m c : Nat) (ps : List Int) (w : World) (hr : Rd w 1 A m c (ps.map (Value.int .i64))) (hm : c ≤ maxLen) :
    Calls Tryz.prog 68 #[.int .i64 r1, .int .i64 o, .int .i64 r, .int .i64 n, .slice A m c] w fun e w' => e = .returned (.int .i64 (gcheck r1 o r n ps)) ∧ Ext w w' := by
  have hx := hr.lenI
  have hml : m ≤ c := hr.2.1
  by_cases ha : 1 ≤ o ∧ o ≤ n ∧ n ≤ 200
  · obtain ⟨a0, a1, a2⟩ := id ha
    obtain ⟨o, rfl⟩ := Int.eq_ofNat_of_zero_le (show 0 ≤ o by omega)
    obtain ⟨n, rfl⟩ := Int.eq_ofNat_of_zero_le (show 0 ≤ n by omega)
    by_cases hb : vld r1 = true ∧ vld r = true ∧ allV ps = true
    · obtain ⟨b0, b1, b2⟩ := id hb
      have hG : gcheck r1 o r n ps = if ps.length ≠ gsteps o n true then 3 else if groots r1 o n ps true ≠ (r1, r) then 8 else 0 := by
        unfold gcheck; rw [if_neg (not_not_intro ha), if_neg (not_not_intro hb), Int.toNat_natCast, Int.toNat_natCast]
      by_cases hc : m = gsteps o n true
      · rw [if_neg (by rw [hx]; exact not_not_intro hc)] at hG
        have hbc : ((m : Int) != ((gsteps o n true : Nat) : Int)) = false := by rw [← hc]; simp
        have HC := Lib.hid hc
        have HR := Lib.hid fun (W : World) (e : Ext w W) => RGrown_any n r1 o n A m c ps true W (Nat.le_refl _) (by omega) (by omega) (by omega) hc (hr.ext e) hm b0 b2
        generalize groots r1 o n ps true = g at *
        obtain ⟨ga, gb⟩ := g
        have H3 : (ga = r1 ∧ gb = r ∧ Hid (gcheck r1 o r n ps = 0)) ∨ (ga ≠ r1 ∧ Hid (gcheck r1 o r n ps = 8)) ∨ (ga = r1 ∧ gb ≠ r ∧ Hid (gcheck r1 o r n ps = 8)) := by
          by_cases e1 : ga = r1
          · by_cases e2 : gb = r
            · exact .inl ⟨e1, e2, by show _ = _; rw [hG, if_neg (by rw [e1, e2]; simp)]⟩
            · exact .inr (.inr ⟨e1, e2, by show _ = _; rw [hG, if_pos (by simp [e2])]⟩)
          · exact .inr (.inl ⟨e1, by show _ = _; rw [hG, if_pos (by simp [e1])]⟩)
        clear hx ha hb hG hc
        rcases H3 with ⟨rfl, rfl, HE⟩ | ⟨h1, HE⟩ | ⟨rfl, h2, HE⟩
        · go_enter Tryz.func68, Tryz.ntmps68
          go_wp2_with (first | (go_at_call 95; refine (RValid_any _ _).mono ?_; rintro e w' ⟨rfl, rfl⟩) | (go_at_call 96; refine (RAll_any A m c ps _ hr hm).mono ?_; rintro e w' ⟨rfl, rfl⟩) | (go_at_call 97; refine (RGrowSteps_any n o n true _ (Nat.le_refl _) (by omega) (by omega) (by omega)).mono ?_; rintro e w' ⟨rfl, rfl⟩))
          refine (HR.out _ (Ext.refl _)).mono ?_
          rintro _ w1 ⟨rfl, hb1⟩
          go_wp2_with fail
          go_ret
          exact ⟨ret_int (by rw [HE.out]), by (repeat (with_reducible first | exact Ext.refl _ | assumption | refine Ext.drew ?_ | refine Ext.drewN ?_ _ | refine Ext.alloc ?_ _ | refine Ext.trans ?_ (by with_reducible assumption)))⟩
        · have h1' : (ga != r1) = true := by simpa using h1
          clear h1
          go_enter Tryz.func68, Tryz.ntmps68
          go_wp2_with (first | (go_at_call 95; refine (RValid_any _ _).mono ?_; rintro e w' ⟨rfl, rfl⟩) | (go_at_call 96; refine (RAll_any A m c ps _ hr hm).mono ?_; rintro e w' ⟨rfl, rfl⟩) | (go_at_call 97; refine (RGrowSteps_any n o n true _ (Nat.le_refl _) (by omega) (by omega) (by omega)).mono ?_; rintro e w' ⟨rfl, rfl⟩))
          refine (HR.out _ (Ext.refl _)).mono ?_
          rintro _ w1 ⟨rfl, hb1⟩
          go_wp2_with fail
          go_ret
          exact ⟨ret_int (by rw [HE.out]), by (repeat (with_reducible first | exact Ext.refl _ | assumption | refine Ext.drew ?_ | refine Ext.drewN ?_ _ | refine Ext.alloc ?_ _ | refine Ext.trans ?_ (by with_reducible assumption)))⟩
        · have h2' : (gb != r) = true := by simpa using h2
          clear h2
          go_enter Tryz.func68, Tryz.ntmps68
          go_wp2_with (first | (go_at_call 95; refine (RValid_any _ _).mono ?_; rintro e w' ⟨rfl, rfl⟩) | (go_at_call 96; refine (RAll_any A m c ps _ hr hm).mono ?_; rintro e w' ⟨rfl, rfl⟩) | (go_at_call 97; refine (RGrowSteps_any n o n true _ (Nat.le_refl _) (by omega) (by omega) (by omega)).mono ?_; rintro e w' ⟨rfl, rfl⟩))
          refine (HR.out _ (Ext.refl _)).mono ?_
          rintro _ w1 ⟨rfl, hb1⟩
          go_wp2_with fail
          go_ret
          exact ⟨ret_int (by rw [HE.out]), by (repeat (with_reducible first | exact Ext.refl _ | assumption | refine Ext.drew ?_ | refine Ext.drewN ?_ _ | refine Ext.alloc ?_ _ | refine Ext.trans ?_ (by with_reducible assumption)))⟩
      · rw [if_pos (by rw [hx]; exact hc)] at hG
        have HE := Lib.hid hG
        have hbc : ((m : Int) != ((gsteps o n true : Nat) : Int)) = true := by simp; omega
        clear hx ha hb hG hc
        go_enter Tryz.func68, Tryz.ntmps68
        go_wp2_with (first | (go_at_call 95; refine (RValid_any _ _).mono ?_; rintro e w' ⟨rfl, rfl⟩) | (go_at_call 96; refine (RAll_any A m c ps _ hr hm).mono ?_; rintro e w' ⟨rfl, rfl⟩) | (go_at_call 97; refine (RGrowSteps_any n o n true _ (Nat.le_refl _) (by omega) (by omega) (by omega)).mono ?_; rintro e w' ⟨rfl, rfl⟩))
        go_ret
        exact ⟨ret_int (by rw [HE.out]), by (repeat (with_reducible first | exact Ext.refl _ | assumption | refine Ext.drew ?_ | refine Ext.drewN ?_ _ | refine Ext.alloc ?_ _ | refine Ext.trans ?_ (by with_reducible assumption)))⟩
    · have HE : Hid (gcheck r1 o r n ps = 1) := by show _ = _; unfold gcheck; rw [if_neg (not_not_intro ha), if_pos hb]
      have hb' : vld r1 = false ∨ (vld r1 = true ∧ vld r = false) ∨ (vld r1 = true ∧ vld r = true ∧ allV ps = false) := by
        cases x1 : vld r1
        · exact .inl rfl
        cases x2 : vld r
        · exact .inr (.inl ⟨rfl, rfl⟩)
        cases x3 : allV ps
        · exact .inr (.inr ⟨rfl, rfl, rfl⟩)
        exact absurd ⟨x1, x2, x3⟩ hb
      clear hb ha hx
      rcases hb' with b0 | ⟨b0, b1⟩ | ⟨b0, b1, b2⟩
      all_goals
        go_enter Tryz.func68, Tryz.ntmps68
        go_wp2_with (first | (go_at_call 95; refine (RValid_any _ _).mono ?_; rintro e w' ⟨rfl, rfl⟩) | (go_at_call 96; refine (RAll_any A m c ps _ hr hm).mono ?_; rintro e w' ⟨rfl, rfl⟩))
        go_ret
        exact ⟨ret_int (by rw [HE.out]), by (repeat (with_reducible first | exact Ext.refl _ | assumption | refine Ext.drew ?_ | refine Ext.drewN ?_ _ | refine Ext.alloc ?_ _ | refine Ext.trans ?_ (by with_reducible assumption)))⟩
  · have HE : Hid (gcheck r1 o r n ps = 1) := by show _ = _; unfold gcheck; rw [if_pos ha]
    have ha' : o < 1 ∨ (1 ≤ o ∧ n < o) ∨ (1 ≤ o ∧ o ≤ n ∧ 200 < n) := by omega
    clear ha hx
    rcases ha' with h | ⟨h, h1⟩ | ⟨h, h1, h2⟩
    all_goals
      go_enter Tryz.func68, Tryz.ntmps68
      go_wp2_with (first | (go_at_call 95; refine (RValid_any _ _).mono ?_; rintro e w' ⟨rfl, rfl⟩) | (go_at_call 96; refine (RAll_any A m c ps _ hr hm).mono ?_; rintro e w' ⟨rfl, rfl⟩))
      go_ret
      exact ⟨ret_int (by rw [HE.out]), by (repeat (with_reducible first | exact Ext.refl _ | assumption | refine Ext.drew ?_ | refine Ext.drewN ?_ _ | refine Ext.alloc ?_ _ | refine Ext.trans ?_ (by with_reducible assumption)))⟩
end Go.Proofs.YtnphbkjkeipmmaaGreatDoor
