/- The references' proofs: Way, Up. -/
import Derived.Test.YtmknpehjncpekaaDoorR2
namespace Go.Proofs.YtmknpehjncpekaaDoor
open Go.RowKit Go.WideShapes
set_option linter.unusedVariables false
attribute [local go_sem ↓] Go.wp_at_zero Go.wp_at_succ

theorem OwnI.nil (w w' : World) : OwnI w w' (.slice none 0 0) [] := own_nil _ _ _ _
theorem OwnI.lit (w : World) (z : Int) : OwnI w (w.alloc (.cells #[.int .i64 z] 3)) (.slice (some ⟨w.heap.size, 0, none⟩) 1 1) [z] :=
  World.ownsRow_lit w #[.int .i64 z] 1 (Nat.le_refl _) (by simp [maxLen]) rfl
theorem OwnI.lower {w w1 w' : World} {v : Value} {ys : List Int} (h : OwnI w1 w' v ys) (e : w.heap.size ≤ w1.heap.size) : OwnI w w' v ys := own_lower h e

set_option maxRecDepth 100000 in
set_option maxHeartbeats 2000000 in
theorem RWay_any (N : Nat) : ∀ (A : Option Addr) (n c : Nat) (xs : List Int) (i : Nat) (w : World), n ≤ N → Rd w 1 A n c (xs.map (Value.int .i64)) → c ≤ maxLen → 1 ≤ n → n ≤ 4096 → allV xs = true → i < n →
    Calls Tryd.prog 9 #[.slice A n c, .int .i64 i] w fun e w' => (∃ v, e = .returned v ∧ OwnI w w' v (wayL xs i)) ∧ Ext w w' := by
  induction N with
  | zero => intro A n c xs i w hN hr hm h1; omega
  | succ N ih =>
    intro A n c xs i w hN hr hm h1 hn hv hi
    have hx := hr.lenI
    have IH := Lib.hid ih
    clear ih
    by_cases h2 : 2 ≤ n
    · have hl : n ≤ c := hr.2.1
      have hk := half_lt h2 hn
      have hk0 := half_pos n
      have hk' := half_le h2 hn
      have HX := Lib.hid hx
      unfold maxLen at hm
      have q0 : (0 : Int) ≤ (half n : Int) := by omega
      have q1 : (half n : Int) ≤ (n : Int) := by omega
      have q2 : (half n : Int) ≤ (c : Int) := by omega
      have q3 : (n : Int) ≤ (c : Int) := by omega
      have e1 : ((n : Int) == 1) = false := by simp; omega
      have R1 := hr.takeI (k := half n) (by omega)
      have R2 := hr.dropI' (k := half n) (by omega)
      obtain ⟨i0, hi0, hz0, hz1, hz2⟩ := info_parts info_int
      by_cases hik : i < half n
      · have HW := Lib.hid (wayL_left (xs := xs) (i := i) (by omega) (by omega) (by rw [hx]; exact hik))
        have hlen := wayL_len n (xs.take (half n)) i (by rw [List.length_take]; omega) (by rw [List.length_take]; omega)
        rw [List.length_take, Nat.min_eq_left (by omega)] at hlen
        have hsl := stepsN_lt (half n) i (half n) (Nat.le_refl _) (by omega) hk0
        have HL : (wayL (xs.take (half n)) i).length ≤ 4096 := by omega
        clear hx hlen hsl
        go_enter Tryd.func9, Tryd.ntmps9
        go_wp2_with fail
        refine (RHalf_any n _ (by omega) hn).mono ?_
        rintro e w' ⟨rfl, rfl⟩
        go_wp2_with fail
        refine (IH.out A (half n) c (xs.take (half n)) i _ (by omega) R1 (by simp only [maxLen]; omega) hk0 (by omega) (allV_take hv (half n)) hik).mono ?_
        rintro _ w1 ⟨⟨v1, rfl, own1⟩, hb1⟩
        have hs1 := hb1.size
        go_wp2_with fail
        refine (RRoot_any N _ _ _ (xs.drop (half n)) _ (by omega) (R2.ext hb1) (by simp only [maxLen]; omega) (by omega) (allV_drop hv (half n))).mono ?_
        rintro _ w2 ⟨rfl, hb2⟩
        have hs2 := hb2.size
        go_wp2_with (at_builtin; refine wpl_app (by rfl) _ _ _ (by rfl) w.heap.size 3 i0 _ 1 8 Tryd.underlying22 hi0 hz0 hz1 hz2 rfl (by omega) v1 _ _ (by rfl) ((own1.ext hb2).alloc _) w2.heap.size 1 [.int .i64 (ofL (xs.drop (half n)))] rfl (by rfl) (news_new w2 _ _ _ rfl) (oneI _) (by omega) (by omega) (by simp; omega) ?_; intro g cap w3 own3 hext3)
        go_ret
        exact ⟨⟨_, rfl, OwnI.mk own3 (by rw [HW.out, HX.out]; simp) (by rw [HW.out, HX.out]; simp)⟩, hext3 _ (Nat.le_refl _) (by (repeat (with_reducible first | exact Ext.refl _ | assumption | refine Ext.drew ?_ | refine Ext.drewN ?_ _ | refine Ext.alloc ?_ _ | refine Ext.trans ?_ (by with_reducible assumption))))⟩
      · have HW := Lib.hid (wayL_right (xs := xs) (i := i) (by omega) (by omega) (by rw [hx]; exact hik))
        have hlen := wayL_len n (xs.drop (half n)) (i - half n) (by rw [List.length_drop]; omega) (by rw [List.length_drop]; omega)
        rw [List.length_drop, hx] at hlen
        have hsl := stepsN_lt (n - half n) (i - half n) (n - half n) (Nat.le_refl _) (by omega) (by omega)
        have HL : (wayL (xs.drop (half n)) (i - half n)).length ≤ 4096 := by omega
        have HT : Hid ((i : Int) - (half n : Int) = ((i - half n : Nat) : Int)) := by show _ = _; omega
        have qi : (half n : Int) ≤ (i : Int) := by omega
        clear hx hlen hsl
        go_enter Tryd.func9, Tryd.ntmps9
        go_wp2_with fail
        refine (RHalf_any n _ (by omega) hn).mono ?_
        rintro e w' ⟨rfl, rfl⟩
        go_wp2_with fail
        rw [HT.out]
        refine (IH.out _ (n - half n) _ (xs.drop (half n)) (i - half n) _ (by omega) R2 (by simp only [maxLen]; omega) (by omega) (by omega) (allV_drop hv (half n)) (by omega)).mono ?_
        rintro _ w1 ⟨⟨v1, rfl, own1⟩, hb1⟩
        have hs1 := hb1.size
        go_wp2_with fail
        refine (RRoot_any N _ _ _ (xs.take (half n)) _ (by omega) (R1.ext hb1) (by simp only [maxLen]; omega) (by omega) (allV_take hv (half n))).mono ?_
        rintro _ w2 ⟨rfl, hb2⟩
        have hs2 := hb2.size
        go_wp2_with (at_builtin; refine wpl_app (by rfl) _ _ _ (by rfl) w.heap.size 3 i0 _ 1 8 Tryd.underlying22 hi0 hz0 hz1 hz2 rfl (by omega) v1 _ _ (by rfl) ((own1.ext hb2).alloc _) w2.heap.size 1 [.int .i64 (ofL (xs.take (half n)))] rfl (by rfl) (news_new w2 _ _ _ rfl) (oneI _) (by omega) (by omega) (by simp; omega) ?_; intro g cap w3 own3 hext3)
        go_ret
        exact ⟨⟨_, rfl, OwnI.mk own3 (by rw [HW.out, HX.out]; simp) (by rw [HW.out, HX.out]; simp)⟩, hext3 _ (Nat.le_refl _) (by (repeat (with_reducible first | exact Ext.refl _ | assumption | refine Ext.drew ?_ | refine Ext.drewN ?_ _ | refine Ext.alloc ?_ _ | refine Ext.trans ?_ (by with_reducible assumption))))⟩
    · obtain rfl : n = 1 := by omega
      have HW := Lib.hid (wayL_one (xs := xs) (i := i) (by omega))
      clear hx
      go_enter Tryd.func9, Tryd.ntmps9
      go_wp2_with fail
      go_ret
      exact ⟨⟨_, rfl, by rw [HW.out]; exact own_nil _ _ _ _⟩, by (repeat (with_reducible first | exact Ext.refl _ | assumption | refine Ext.drew ?_ | refine Ext.drewN ?_ _ | refine Ext.alloc ?_ _ | refine Ext.trans ?_ (by with_reducible assumption)))⟩

set_option maxRecDepth 100000 in
set_option maxHeartbeats 2000000 in
theorem RUp_any (N : Nat) : ∀ (i n : Nat) (s : Int) (A : Option Addr) (m c : Nat) (ps : List Int) (w : World), n ≤ N → 1 ≤ n → n ≤ 4096 → i < n → m = stepsN i n → Rd w 1 A m c (ps.map (Value.int .i64)) → c ≤ maxLen → vld s = true → allV ps = true →
    Calls Tryd.prog 12 #[.int .i64 i, .int .i64 n, .int .i64 s, .slice A m c] w fun e w' => e = .returned (.int .i64 (upL i n s ps)) ∧ Ext w w' := by
  induction N with
  | zero => intro i n s A m c ps w h h1; omega
  | succ N ih =>
    intro i n s A m c ps w hN h1 hn hi hms hr hm hv hp
    have hx := hr.lenI
    have hl : m ≤ c := hr.2.1
    have IH := Lib.hid ih
    clear ih
    by_cases h2 : 2 ≤ n
    · have hk := half_lt h2 hn
      have hk0 := half_pos n
      have e1 : ((n : Int) == 1) = false := by simp; omega
      by_cases hik : i < half n
      · obtain ⟨k, hmk⟩ : ∃ k, m = k + 1 := ⟨stepsN i (half n), by rw [hms, stepsN_left h2 hn hik]⟩
        have hks : k = stepsN i (half n) := by rw [stepsN_left h2 hn hik] at hms; omega
        subst hmk
        have hS := upL_left (s := s) (p := ps) h2 hn hik
        have hlast := last_of hx
        have hvl := allV_get hp hlast
        rw [← init_of hx] at hS
        obtain ⟨ad, hA, hb, hcell⟩ := hr.getI hlast
        have R := hr.takeI (k := k) (by omega)
        have hvt := allV_take hp k
        have hvu := vld_upL (i := i) (n := half n) (p := ps.take k) hv (by omega)
        generalize ps.getLastD 0 = z at *
        have HS := Lib.hid hS
        have HV := Lib.hid hvl
        have HVU := Lib.hid hvu
        subst hA
        have HKS := Lib.hid hks
        clear hx hms hlast hS hvl hvu hks
        unfold maxLen at hm
        go_enter Tryd.func12, Tryd.ntmps12
        go_wp2_with fail
        refine (RHalf_any n _ (by omega) hn).mono ?_
        rintro e w' ⟨rfl, rfl⟩
        go_wp2_with fail
        refine (IH.out i (half n) s _ k c (ps.take k) _ (by omega) hk0 (by omega) hik HKS.out R (by simp only [maxLen]; omega) hv hvt).mono ?_
        rintro _ w1 ⟨rfl, hb1⟩
        go_wp2_with fail
        refine (RNode_any _ _ _ HVU.out HV.out).mono ?_
        rintro _ w2 ⟨rfl, hb2⟩
        go_wp2_with fail
        go_ret
        exact ⟨ret_int (by rw [HS.out]), by (repeat (with_reducible first | exact Ext.refl _ | assumption | refine Ext.drew ?_ | refine Ext.drewN ?_ _ | refine Ext.alloc ?_ _ | refine Ext.trans ?_ (by with_reducible assumption)))⟩
      · obtain ⟨k, hmk⟩ : ∃ k, m = k + 1 := ⟨stepsN (i - half n) (n - half n), by rw [hms, stepsN_right h2 hn hik]⟩
        have hks : k = stepsN (i - half n) (n - half n) := by rw [stepsN_right h2 hn hik] at hms; omega
        subst hmk
        have hS := upL_right (s := s) (p := ps) h2 hn hik
        have hlast := last_of hx
        have hvl := allV_get hp hlast
        rw [← init_of hx] at hS
        obtain ⟨ad, hA, hb, hcell⟩ := hr.getI hlast
        have R := hr.takeI (k := k) (by omega)
        have hvt := allV_take hp k
        have hvu := vld_upL (i := i - half n) (n := n - half n) (p := ps.take k) hv (by omega)
        generalize ps.getLastD 0 = z at *
        have HS := Lib.hid hS
        have HV := Lib.hid hvl
        have HVU := Lib.hid hvu
        have E1 : Hid ((i : Int) - (half n : Int) = ((i - half n : Nat) : Int)) := by show _ = _; omega
        have E2 : Hid ((n : Int) - (half n : Int) = ((n - half n : Nat) : Int)) := by show _ = _; omega
        subst hA
        have HKS := Lib.hid hks
        clear hx hms hlast hS hvl hvu hks
        unfold maxLen at hm
        go_enter Tryd.func12, Tryd.ntmps12
        go_wp2_with fail
        refine (RHalf_any n _ (by omega) hn).mono ?_
        rintro e w' ⟨rfl, rfl⟩
        go_wp2_with fail
        rw [E1.out, E2.out]
        refine (IH.out (i - half n) (n - half n) s _ k c (ps.take k) _ (by omega) (by omega) (by omega) (by omega) HKS.out R (by simp only [maxLen]; omega) hv hvt).mono ?_
        rintro _ w1 ⟨rfl, hb1⟩
        go_wp2_with fail
        refine (RNode_any _ _ _ HV.out HVU.out).mono ?_
        rintro _ w2 ⟨rfl, hb2⟩
        go_wp2_with fail
        go_ret
        exact ⟨ret_int (by rw [HS.out]), by (repeat (with_reducible first | exact Ext.refl _ | assumption | refine Ext.drew ?_ | refine Ext.drewN ?_ _ | refine Ext.alloc ?_ _ | refine Ext.trans ?_ (by with_reducible assumption)))⟩
    · obtain rfl : n = 1 := by omega
      have HS := Lib.hid (upL_one (i := i) (n := 1) (s := s) (p := ps) (by omega))
      clear hx hms
      go_enter Tryd.func12, Tryd.ntmps12
      go_wp2_with fail
      go_ret
      exact ⟨ret_int (by rw [HS.out]), by (repeat (with_reducible first | exact Ext.refl _ | assumption | refine Ext.drew ?_ | refine Ext.drewN ?_ _ | refine Ext.alloc ?_ _ | refine Ext.trans ?_ (by with_reducible assumption)))⟩
end Go.Proofs.YtmknpehjncpekaaDoor
