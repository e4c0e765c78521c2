import Derived.Test.YtgfkalhpefjenaaDoorR5
import Derived.Test.YtgfkalhpefjenaaDoorGMake
namespace Go.Proofs.YtgfkalhpefjenaaDoor.growTells
open Go.RowKit Go.WideShapes
set_option linter.unusedVariables false
attribute [local go_sem ↓] Go.wp_at_zero Go.wp_at_succ

theorem ways (xs : List Int) (o m : Int) (n : Nat) (hx : xs.length = n) : (leafsK xs ≠ 0 ∧ gmK xs o m = leafsK xs) ∨ (leafsK xs = 0 ∧ o < 1 ∧ gmK xs o m = 1) ∨ (leafsK xs = 0 ∧ 1 ≤ o ∧ m < o ∧ gmK xs o m = 1) ∨ (leafsK xs = 0 ∧ 1 ≤ o ∧ o ≤ m ∧ (n : Int) < m ∧ gmK xs o m = 1) ∨ (leafsK xs = 0 ∧ 1 ≤ o ∧ o ≤ m ∧ m ≤ (n : Int) ∧ gmK xs o m = 0) := by
  by_cases h0 : leafsK xs = 0
  · have hk := leafsK_zero h0
    by_cases h : 1 ≤ o ∧ o ≤ m ∧ m ≤ xs.length
    · have := gmK_ok hk h; omega
    · have := gmK_range hk h; omega
  · exact .inl ⟨h0, gmK_bad h0⟩

set_option maxRecDepth 100000 in
set_option maxHeartbeats 4000000 in
theorem walk (A : Option Addr) (n c : Nat) (xs : List Int) (o m r1 root : Int) (A' : Option Addr) (n' c' : Nat) (ps : List Int) (w : World) (hl : xs.length = n) (hm : c ≤ maxLen) (hr : Rd w 1 A n c (xs.map (Value.int .i64))) (hgd : ∀ y ∈ xs, igood y) (h0 : igood o) (h1 : igood m) (h2 : igood r1) (h3 : igood root)
    (hl' : ps.length = n') (hm' : c' ≤ maxLen) (hr' : Rd w 1 A' n' c' (ps.map (Value.int .i64))) (hgd' : ∀ y ∈ ps, igood y) (hg : ErrG w) :
    Calls Tryd.prog 11 #[.slice A n c, .int .i64 o, .int .i64 m, .int .i64 r1, .int .i64 root, .slice A' n' c'] w fun e w' => e = .returned (.bool true) ∧ Ext w w' := by
  have hlc := hr.2.1
  have hW := ways xs o m n hl
  obtain ⟨k0, e0⟩ : ∃ k, k = leafsK xs := ⟨_, rfl⟩
  obtain ⟨k1, e1⟩ : ∃ k, k = gmK xs o m := ⟨_, rfl⟩
  obtain ⟨ys, e2⟩ : ∃ ys, ys = gmV xs o m := ⟨_, rfl⟩
  obtain ⟨k2, e3⟩ : ∃ k, k = gcheck r1 o root m ps := ⟨_, rfl⟩
  rw [← e0, ← e1] at hW
  obtain ⟨tb, HB⟩ : ∃ tb : Bool, Hid ((tb = true → k1 = 1) ∧ (tb = false → k1 = k0)) ∧ Hid (tb = decide (k0 = 0 ∧ ¬ (1 ≤ o ∧ o ≤ m ∧ m ≤ n))) := by
    refine ⟨decide (k0 = 0 ∧ ¬ (1 ≤ o ∧ o ≤ m ∧ m ≤ n)), ⟨fun h => ?_, fun h => ?_⟩, rfl⟩
    · have := of_decide_eq_true h; omega
    · have := of_decide_eq_false h; omega
  obtain ⟨HB1, HB2⟩ := HB
  have HW := Lib.hid hW
  have HV : Hid (k1 = 0 → leafsOk xs ∧ 1 ≤ o ∧ o ≤ m ∧ m ≤ (n : Int) ∧ ys = growL (xs.take m.toNat) o.toNat true) := by
    intro h
    have h' := h
    rw [e1] at h'
    have hz : k0 = 0 := by omega
    rw [e0] at hz
    refine ⟨leafsK_zero hz, by omega, by omega, by omega, ?_⟩
    rw [e2]; unfold gmV; rw [if_pos h']
  have HN : Hid (k1 ≠ 0 → ys = []) := by
    intro h
    rw [e2]; unfold gmV; rw [if_neg (by rw [← e1]; exact h)]
  have E0 := Lib.hid e0.symm
  have E1 := Lib.hid e1.symm
  have E2 := Lib.hid e2.symm
  have E3 := Lib.hid e3.symm
  have HX := Lib.hid hl
  clear hW e0 e1 e2 e3 hl hgd hgd' h0 h1 h2 h3 hl'
  go_enter Tryd.func11, Tryd.ntmps11
  go_wp2_with fail
  refine (RLeafs_tot A n c xs _ hr hm).mono ?_
  rw [E0.out]
  rintro _ w' ⟨rfl, rfl⟩
  go_upto_region 2 with (fail)
  go_cut [38] (fun v wc => v = .bool tb ∧ w = wc)
  case first =>
    rcases HW.out with ⟨a1, a2⟩ | ⟨a1, a2, a3⟩ | ⟨a1, a2, a3, a4⟩ | ⟨a1, a2, a3, a4, a5⟩ | ⟨a1, a2, a3, a4, a5⟩
    · have hb := HB2.out
      rw [decide_eq_false (by omega)] at hb
      subst hb
      have a1' : (k0 == 0) = false := by simp [a1]
      clear a1 a2
      go_wp2_with fail
      go_meet
      exact ⟨rfl, rfl⟩
    all_goals
      subst a1
      have hb := HB2.out
      first
        | rw [decide_eq_true (by omega)] at hb
        | rw [decide_eq_false (by omega)] at hb
      subst hb
      go_wp2_with fail
      go_meet
      exact ⟨by first | rfl | (congr 1; simp; omega), rfl⟩
  case rest =>
    obtain ⟨rfl, rfl⟩ := hcut
    go_upto_if 38 with (fail)
    go_cut [13] (fun v wc => v = .int .i64 k1 ∧ w = wc)
    case first =>
      cases tb
      · obtain rfl := HB1.out.2 rfl
        go_wp2_with fail
        go_meet
        exact ⟨rfl, rfl⟩
      · obtain rfl := HB1.out.1 rfl
        go_wp2_with fail
        go_meet
        exact ⟨rfl, rfl⟩
    case rest =>
      obtain ⟨rfl, rfl⟩ := hcut
      go_upto_if 40 with (fail)
      go_cut [14] (fun v wc => OwnI w wc v ys ∧ Ext w wc)
      case first =>
        by_cases hk : k1 = 0
        · obtain ⟨b0, b1, b2, b3, b4⟩ := HV.out hk
          subst hk
          obtain ⟨m, rfl⟩ := Int.eq_ofNat_of_zero_le (show 0 ≤ m by omega)
          obtain ⟨o, rfl⟩ := Int.eq_ofNat_of_zero_le (show 0 ≤ o by omega)
          rw [Int.toNat_natCast, Int.toNat_natCast] at b4
          have B0 := Lib.hid b0
          have B4 := Lib.hid b4
          have q1 : (m : Int) ≤ (c : Int) := by omega
          have hn2 : n ≤ 200 := by have := b0.1; rw [HX.out] at this; exact this
          clear b0 b4
          go_wp2_with fail
          refine (RGrow_any m A m c (xs.take m) o true _ (Nat.le_refl _) (hr.takeI (by omega)) hm (by omega) (by omega) (by omega) (allV_take B0.out.2 m)).mono ?_
          rintro _ w1 ⟨⟨v1, rfl, own1⟩, hb1⟩
          rw [← B4.out] at own1
          go_wp2_with fail
          go_meet
          exact ⟨own1, by (repeat (with_reducible first | exact Ext.refl _ | assumption | refine Ext.drew ?_ | refine Ext.drewN ?_ _ | refine Ext.alloc ?_ _ | refine Ext.trans ?_ (by with_reducible assumption)))⟩
        · obtain rfl := HN.out hk
          have hk' : (k1 == 0) = false := by simp [hk]
          clear hk
          go_wp2_with fail
          go_meet
          exact ⟨own_nil _ _ _ _, by (repeat (with_reducible first | exact Ext.refl _ | assumption | refine Ext.drew ?_ | refine Ext.drewN ?_ _ | refine Ext.alloc ?_ _ | refine Ext.trans ?_ (by with_reducible assumption)))⟩
      case rest =>
        obtain ⟨hown, X1⟩ := hcut
        obtain ⟨A1, c1, rfl, hc1, R1⟩ := hown.rd
        clear hown
        go_wp2_with fail
        refine (GMake_any A n c xs o m _ (hr.ext X1) hm).mono ?_
        rw [E1.out, E2.out]
        rintro _ w2 ⟨⟨v2, rfl, own2⟩, hb2⟩
        obtain ⟨A2, c2, rfl, hc2, R2⟩ := own2.rd
        clear own2
        have X2 := X1.trans hb2
        go_wp2_with fail
        refine (Error_same k1 _ (hg.ext X2)).mono ?_
        rintro _ w3 ⟨rfl, hb3⟩
        have X3 := X2.trans hb3
        have hb23 := hb2.trans hb3
        go_wp2_with fail
        refine (Ints_any A2 A1 _ _ c2 c1 ys ys _ (R2.ext hb3) (R1.ext hb23) hc2 hc1).mono ?_
        rw [sameB_self]
        rintro _ w4 ⟨rfl, hb4⟩
        have X4 := X3.trans hb4
        go_wp2_with fail
        refine (GCheck_any r1 o root m A' n' c' ps _ (hr'.ext X4) hm').mono ?_
        rw [E3.out]
        rintro _ w5 ⟨rfl, hb5⟩
        have X5 := X4.trans hb5
        go_wp2_with fail
        refine (RGrowCheck_any r1 o root m A' n' c' ps _ (hr'.ext X5) hm').mono ?_
        rw [E3.out]
        rintro _ w6 ⟨rfl, hb6⟩
        have X6 := X5.trans hb6
        go_wp2_with fail
        refine (Error_same k2 _ (hg.ext X6)).mono ?_
        rintro _ w7 ⟨rfl, hb7⟩
        go_wp2_with fail
        go_ret
        exact ⟨rfl, X6.trans hb7⟩
end Go.Proofs.YtgfkalhpefjenaaDoor.growTells
