import Derived.Test.YtgfkalhpefjenaaDoorR5
namespace Go.Proofs.YtgfkalhpefjenaaDoor.proofTells
open Go.RowKit Go.WideShapes
set_option linter.unusedVariables false
attribute [local go_sem ↓] Go.wp_at_zero Go.wp_at_succ

theorem ways (xs : List Int) (i m : Int) (n : Nat) (hx : xs.length = n) : (leafsK xs ≠ 0 ∧ pmK xs i m = leafsK xs) ∨ (leafsK xs = 0 ∧ i < 0 ∧ pmK xs i m = 1) ∨ (leafsK xs = 0 ∧ 0 ≤ i ∧ m ≤ i ∧ pmK xs i m = 1) ∨ (leafsK xs = 0 ∧ 0 ≤ i ∧ i < m ∧ (n : Int) < m ∧ pmK xs i m = 1) ∨ (leafsK xs = 0 ∧ 0 ≤ i ∧ i < m ∧ m ≤ (n : Int) ∧ pmK xs i m = 0) := by
  by_cases h0 : leafsK xs = 0
  · have hk := leafsK_zero h0
    by_cases h : 0 ≤ i ∧ i < m ∧ m ≤ xs.length
    · have := pmK_ok hk h; omega
    · have := pmK_range hk h; omega
  · exact .inl ⟨h0, pmK_bad h0⟩
theorem swaysN (i m : Int) : (i < 0 ∧ stepsK i m = 1 ∧ stepsV i m = 0) ∨ (0 ≤ i ∧ m ≤ i ∧ stepsK i m = 1 ∧ stepsV i m = 0) ∨ (0 ≤ i ∧ i < m ∧ 200 < m ∧ stepsK i m = 1 ∧ stepsV i m = 0) ∨ (0 ≤ i ∧ i < m ∧ m ≤ 200 ∧ stepsK i m = 0 ∧ stepsV i m = (stepsN i.toNat m.toNat : Nat)) := by
  unfold stepsK stepsV
  by_cases h : 0 ≤ i ∧ i < m ∧ m ≤ 200
  · rw [if_pos h, if_pos h]; right; right; right; exact ⟨h.1, h.2.1, h.2.2, rfl, rfl⟩
  · rw [if_neg h, if_neg h]; omega
/-- what the last test makes of the fault -/
theorem cways (want n i s : Int) (p : List Int) : (stepsK i n ≠ 0 ∧ pcheck want n i s p = stepsK i n) ∨ (stepsK i n = 0 ∧ vld want = false ∧ pcheck want n i s p = 1) ∨ (stepsK i n = 0 ∧ vld want = true ∧ vld s = false ∧ pcheck want n i s p = 1) ∨ (stepsK i n = 0 ∧ vld want = true ∧ vld s = true ∧ allV p = false ∧ pcheck want n i s p = 1) ∨
    (stepsK i n = 0 ∧ vld want = true ∧ vld s = true ∧ allV p = true ∧ (p.length : Int) ≠ stepsV i n ∧ pcheck want n i s p = 3) ∨ (stepsK i n = 0 ∧ vld want = true ∧ vld s = true ∧ allV p = true ∧ (p.length : Int) = stepsV i n ∧ upL i.toNat n.toNat s p ≠ want ∧ pcheck want n i s p = 8) ∨ (stepsK i n = 0 ∧ vld want = true ∧ vld s = true ∧ allV p = true ∧ (p.length : Int) = stepsV i n ∧ upL i.toNat n.toNat s p = want ∧ pcheck want n i s p = 0) := by
  unfold stepsK stepsV
  by_cases h : 0 ≤ i ∧ i < n ∧ n ≤ 200
  · rw [if_pos h, if_pos h]
    by_cases hb : vld want = true ∧ vld s = true ∧ allV p = true
    · obtain ⟨b0, b1, b2⟩ := id hb
      by_cases hc : p.length = stepsN i.toNat n.toNat
      · by_cases hd : upL i.toNat n.toNat s p = want
        · exact .inr (.inr (.inr (.inr (.inr (.inr ⟨rfl, b0, b1, b2, by omega, hd, pcheck_ok h hb hc hd⟩)))))
        · exact .inr (.inr (.inr (.inr (.inr (.inl ⟨rfl, b0, b1, b2, by omega, hd, pcheck_root h hb hc hd⟩)))))
      · exact .inr (.inr (.inr (.inr (.inl ⟨rfl, b0, b1, b2, by omega, pcheck_len h hb hc⟩))))
    · have hp := pcheck_vld h hb
      cases x1 : vld want
      · exact .inr (.inl ⟨rfl, rfl, hp⟩)
      cases x2 : vld s
      · exact .inr (.inr (.inl ⟨rfl, rfl, rfl, hp⟩))
      cases x3 : allV p
      · exact .inr (.inr (.inr (.inl ⟨rfl, rfl, rfl, rfl, hp⟩)))
      exact absurd ⟨x1, x2, x3⟩ hb
  · rw [if_neg h]; exact .inl ⟨by decide, pcheck_range h⟩

set_option maxRecDepth 100000 in
set_option maxHeartbeats 8000000 in
theorem walk (A : Option Addr) (n c : Nat) (xs : List Int) (i m root s : Int) (A' : Option Addr) (n' c' : Nat) (ps : List Int) (w : World) (hl : xs.length = n) (hm : c ≤ maxLen) (hr : Rd w 1 A n c (xs.map (Value.int .i64))) (hgd : ∀ y ∈ xs, igood y) (h0 : igood i) (h1 : igood m) (h2 : igood root) (h3 : igood s)
    (hl' : ps.length = n') (hm' : c' ≤ maxLen) (hr' : Rd w 1 A' n' c' (ps.map (Value.int .i64))) (hgd' : ∀ y ∈ ps, igood y) (hg : ErrG w) :
    Calls Tryd.prog 10 #[.slice A n c, .int .i64 i, .int .i64 m, .int .i64 root, .int .i64 s, .slice A' n' c'] w fun e w' => e = .returned (.bool true) ∧ Ext w w' := by
  have hlc := hr.2.1
  have hlc' := hr'.2.1
  have hW := ways xs i m n hl
  have hS := swaysN i m
  have hC := cways root m i s ps
  obtain ⟨k0, e0⟩ : ∃ k, k = leafsK xs := ⟨_, rfl⟩
  obtain ⟨k1, e1⟩ : ∃ k, k = pmK xs i m := ⟨_, rfl⟩
  obtain ⟨ys, e2⟩ : ∃ ys, ys = pmV xs i m := ⟨_, rfl⟩
  obtain ⟨k2, e3⟩ : ∃ k, k = stepsK i m := ⟨_, rfl⟩
  obtain ⟨st, e4⟩ : ∃ k, k = stepsV i m := ⟨_, rfl⟩
  obtain ⟨k3, e5⟩ : ∃ k, k = pcheck root m i s ps := ⟨_, rfl⟩
  obtain ⟨ba, g1⟩ : ∃ b, b = vld root := ⟨_, rfl⟩
  obtain ⟨bb, g2⟩ : ∃ b, b = vld s := ⟨_, rfl⟩
  obtain ⟨bc, g3⟩ : ∃ b, b = allV ps := ⟨_, rfl⟩
  rw [← e0, ← e1] at hW
  rw [← e3, ← e4] at hS
  rw [← e3, ← e4, ← e5, ← g1, ← g2, ← g3, hl'] at hC
  obtain ⟨tb, HB⟩ : ∃ tb : Bool, Hid ((tb = true → k1 = 1) ∧ (tb = false → k1 = k0)) ∧ Hid (tb = decide (k0 = 0 ∧ ¬ (0 ≤ i ∧ i < m ∧ m ≤ n))) := by
    refine ⟨decide (k0 = 0 ∧ ¬ (0 ≤ i ∧ i < m ∧ m ≤ n)), ⟨fun h => ?_, fun h => ?_⟩, rfl⟩
    · have := of_decide_eq_true h; omega
    · have := of_decide_eq_false h; omega
  obtain ⟨HB1, HB2⟩ := HB
  have HW := Lib.hid hW
  have HS := Lib.hid hS
  have HC := Lib.hid hC
  have HV : Hid (k1 = 0 → leafsOk xs ∧ 0 ≤ i ∧ i < m ∧ m ≤ (n : Int) ∧ ys = wayL (xs.take m.toNat) i.toNat) := by
    intro h
    have h' := h
    rw [e1] at h'
    have hz := pmK_zero h'
    refine ⟨hz.1, hz.2.1, hz.2.2.1, by omega, ?_⟩
    rw [e2]; unfold pmV; rw [if_pos h']
  have HN : Hid (k1 ≠ 0 → ys = []) := by
    intro h
    rw [e2]; unfold pmV; rw [if_neg (by rw [← e1]; exact h)]
  have E0 := Lib.hid e0.symm
  have E1 := Lib.hid e1.symm
  have E2 := Lib.hid e2.symm
  have E3 := Lib.hid e3.symm
  have E4 := Lib.hid e4.symm
  have E5 := Lib.hid e5.symm
  have HX := Lib.hid hl
  have G1 := Lib.hid g1.symm
  have G2 := Lib.hid g2.symm
  have G3 := Lib.hid g3.symm
  clear g1 g2 g3
  clear hW hS hC e0 e1 e2 e3 e4 e5 hl hgd hgd' h0 h1 h2 h3 hl'
  go_enter Tryd.func10, Tryd.ntmps10
  go_wp2_with fail
  refine (RLeafs_tot A n c xs _ hr hm).mono ?_
  rw [E0.out]
  rintro _ w' ⟨rfl, rfl⟩
  go_upto_region 2 with (fail)
  go_cut [44] (fun v wc => v = .bool tb ∧ w = wc)
  case first =>
    rcases HW.out with ⟨a1, a2⟩ | ⟨a1, a2, a3⟩ | ⟨a1, a2, a3, a4⟩ | ⟨a1, a2, a3, a4, a5⟩ | ⟨a1, a2, a3, a4, a5⟩
    · have hb := HB2.out
      rw [decide_eq_false (by omega)] at hb
      subst hb
      have a1' : (k0 == 0) = false := by simp [a1]
      clear a1 a2
      go_wp2_with fail
      go_meet
      exact ⟨rfl, rfl⟩
    all_goals
      subst a1
      have hb := HB2.out
      first
        | rw [decide_eq_true (by omega)] at hb
        | rw [decide_eq_false (by omega)] at hb
      subst hb
      go_wp2_with fail
      go_meet
      exact ⟨by first | rfl | (congr 1; simp; omega), rfl⟩
  case rest =>
    obtain ⟨rfl, rfl⟩ := hcut
    go_upto_if 44 with (fail)
    go_cut [13] (fun v wc => v = .int .i64 k1 ∧ w = wc)
    case first =>
      cases tb
      · obtain rfl := HB1.out.2 rfl
        go_wp2_with fail
        go_meet
        exact ⟨rfl, rfl⟩
      · obtain rfl := HB1.out.1 rfl
        go_wp2_with fail
        go_meet
        exact ⟨rfl, rfl⟩
    case rest =>
      obtain ⟨rfl, rfl⟩ := hcut
      go_upto_if 46 with (fail)
      go_cut [14] (fun v wc => OwnI w wc v ys ∧ Ext w wc)
      case first =>
        by_cases hk : k1 = 0
        · obtain ⟨b0, b1, b2, b3, b4⟩ := HV.out hk
          subst hk
          obtain ⟨m, rfl⟩ := Int.eq_ofNat_of_zero_le (show 0 ≤ m by omega)
          obtain ⟨i, rfl⟩ := Int.eq_ofNat_of_zero_le (show 0 ≤ i by omega)
          rw [Int.toNat_natCast, Int.toNat_natCast] at b4
          have B0 := Lib.hid b0
          have B4 := Lib.hid b4
          have q1 : (m : Int) ≤ (c : Int) := by omega
          have hn2 : n ≤ 200 := by have := b0.1; rw [HX.out] at this; exact this
          clear b0 b4
          go_wp2_with fail
          refine (RWay_any m A m c (xs.take m) i _ (Nat.le_refl _) (hr.takeI (by omega)) hm (by omega) (by omega) (allV_take B0.out.2 m) (by omega)).mono ?_
          rintro _ w1 ⟨⟨v1, rfl, own1⟩, hb1⟩
          rw [← B4.out] at own1
          go_wp2_with fail
          go_meet
          exact ⟨own1, by (repeat (with_reducible first | exact Ext.refl _ | assumption | refine Ext.drew ?_ | refine Ext.drewN ?_ _ | refine Ext.alloc ?_ _ | refine Ext.trans ?_ (by with_reducible assumption)))⟩
        · obtain rfl := HN.out hk
          have hk' : (k1 == 0) = false := by simp [hk]
          clear hk
          go_wp2_with fail
          go_meet
          exact ⟨own_nil _ _ _ _, by (repeat (with_reducible first | exact Ext.refl _ | assumption | refine Ext.drew ?_ | refine Ext.drewN ?_ _ | refine Ext.alloc ?_ _ | refine Ext.trans ?_ (by with_reducible assumption)))⟩
      case rest =>
        obtain ⟨hown, X1⟩ := hcut
        obtain ⟨A1, c1, rfl, hc1, R1⟩ := hown.rd
        clear hown
        go_wp2_with fail
        refine (PMake_any A n c xs i m _ (hr.ext X1) hm).mono ?_
        rw [E1.out, E2.out]
        rintro _ w2 ⟨⟨v2, rfl, own2⟩, hb2⟩
        obtain ⟨A2, c2, rfl, hc2, R2⟩ := own2.rd
        clear own2
        have X2 := X1.trans hb2
        go_wp2_with fail
        refine (Error_same k1 _ (hg.ext X2)).mono ?_
        rintro _ w3 ⟨rfl, hb3⟩
        have X3 := X2.trans hb3
        have hb23 := hb2.trans hb3
        go_wp2_with fail
        refine (Ints_any A2 A1 _ _ c2 c1 ys ys _ (R2.ext hb3) (R1.ext hb23) hc2 hc1).mono ?_
        rw [sameB_self]
        rintro _ w4 ⟨rfl, hb4⟩
        have X4 := X3.trans hb4
        clear hb2 hb3 hb23 R1 R2 hb4
        obtain ⟨sb, HSB⟩ : ∃ sb : Bool, Hid (sb = decide (k2 ≠ 0)) := ⟨_, rfl⟩
        go_upto_region 12 with (fail)
        go_cut [75] (fun v wc => v = .bool sb ∧ w4 = wc)
        case first =>
          rcases HS.out with ⟨a1, a2, a3⟩ | ⟨a1, a2, a3, a4⟩ | ⟨a1, a2, a3, a4, a5⟩ | ⟨a1, a2, a3, a4, a5⟩
          all_goals
            have hb := HSB.out
            first
              | rw [decide_eq_true (by omega)] at hb
              | rw [decide_eq_false (by omega)] at hb
            subst hb
            go_wp2_with fail
            go_meet
            exact ⟨by first | rfl | (congr 1; simp; omega), rfl⟩
        case rest =>
          obtain ⟨rfl, rfl⟩ := hcut
          go_upto_if 75 with (fail)
          go_cut [13, 19] (fun e v wc => e = .int .i64 k2 ∧ v = .int .i64 st ∧ w4 = wc)
          case first =>
            rcases HS.out with ⟨a1, a2, a3⟩ | ⟨a1, a2, a3, a4⟩ | ⟨a1, a2, a3, a4, a5⟩ | ⟨a1, a2, a3, a4, a5⟩
            · have hb := HSB.out
              subst a2
              subst a3
              rw [decide_eq_true (by omega)] at hb
              subst hb
              go_wp2_with fail
              go_meet
              exact ⟨rfl, rfl, rfl⟩
            · have hb := HSB.out
              subst a3
              subst a4
              rw [decide_eq_true (by omega)] at hb
              subst hb
              go_wp2_with fail
              go_meet
              exact ⟨rfl, rfl, rfl⟩
            · have hb := HSB.out
              subst a4
              subst a5
              rw [decide_eq_true (by omega)] at hb
              subst hb
              go_wp2_with fail
              go_meet
              exact ⟨rfl, rfl, rfl⟩
            · have hb := HSB.out
              subst a4
              rw [decide_eq_false (by omega)] at hb
              subst hb
              obtain ⟨m, rfl⟩ := Int.eq_ofNat_of_zero_le (show 0 ≤ m by omega)
              obtain ⟨i, rfl⟩ := Int.eq_ofNat_of_zero_le (show 0 ≤ i by omega)
              rw [Int.toNat_natCast, Int.toNat_natCast] at a5
              have A5 := Lib.hid a5
              clear a5
              go_wp2_with fail
              refine (RSteps_any m i m _ (Nat.le_refl _) (by omega) (by omega)).mono ?_
              rintro _ w5 ⟨rfl, rfl⟩
              go_wp2_with fail
              go_meet
              exact ⟨rfl, by rw [A5.out], rfl⟩
          case rest =>
            obtain ⟨rfl, rfl, rfl⟩ := hcut
            go_wp2_with fail
            refine (Steps_any i m _).mono ?_
            rw [E3.out, E4.out]
            rintro _ w5 ⟨rfl, hb5⟩
            have X5 := X4.trans hb5
            go_wp2_with fail
            refine (Error_same k2 _ (hg.ext X5)).mono ?_
            rintro _ w6 ⟨rfl, hb6⟩
            have X6 := X5.trans hb6
            go_upto_region 20 with (first | (go_at_call 27; refine (RValid_any _ _).mono ?_; rintro e w' ⟨rfl, rfl⟩) | (go_at_call 32; refine (RAll_any A' n' c' ps _ (by exact hr'.ext X6) hm').mono ?_; rintro e w' ⟨rfl, rfl⟩))
            rw [G1.out, G2.out, G3.out]
            clear hb5 hb6
            obtain ⟨vb, HVB⟩ : ∃ vb : Bool, Hid (vb = (decide (k2 = 0) && !(ba && bb && bc))) := ⟨_, rfl⟩
            go_cut [107] (fun v wc => v = .bool vb ∧ w6 = wc)
            case first =>
              rcases HC.out with ⟨a1, a2⟩ | ⟨a1, rfl, a3⟩ | ⟨a1, rfl, rfl, a4⟩ | ⟨a1, rfl, rfl, rfl, a5⟩ | ⟨a1, rfl, rfl, rfl, a5, a6⟩ | ⟨a1, rfl, rfl, rfl, a5, a6, a7⟩ | ⟨a1, rfl, rfl, rfl, a5, a6, a7⟩
              · have hb := HVB.out
                rw [decide_eq_false (by omega), Bool.false_and] at hb
                subst hb
                have a1' : (k2 == 0) = false := by simp [a1]
                clear a1 a2
                go_wp2_with fail
                go_meet
                exact ⟨rfl, rfl⟩
              all_goals
                subst a1
                have hb := HVB.out
                simp at hb
                subst hb
                go_wp2_with fail
                go_meet
                exact ⟨by first | rfl | simp, rfl⟩
            case rest =>
              obtain ⟨rfl, rfl⟩ := hcut
              go_upto_if 107 with (fail)
              go_cut [13] (fun v wc => v = .int .i64 k3 ∧ Ext w6 wc)
              case first =>
                rcases HC.out with ⟨a1, a2⟩ | ⟨a1, rfl, a3⟩ | ⟨a1, rfl, rfl, a3⟩ | ⟨a1, rfl, rfl, rfl, a3⟩ | ⟨a1, rfl, rfl, rfl, a5, a6⟩ | ⟨a1, rfl, rfl, rfl, a5, a6, a7⟩ | ⟨a1, rfl, rfl, rfl, a5, a6, a7⟩
                · have hb := HVB.out
                  rw [decide_eq_false (by omega), Bool.false_and] at hb
                  subst hb
                  subst a2
                  have a1' : (k3 == 0) = false := by simp [a1]
                  clear a1
                  go_wp2_with fail
                  go_meet
                  exact ⟨rfl, by (repeat (with_reducible first | exact Ext.refl _ | assumption | refine Ext.drew ?_ | refine Ext.drewN ?_ _ | refine Ext.alloc ?_ _ | refine Ext.trans ?_ (by with_reducible assumption)))⟩
                iterate 3
                  · subst a1
                    subst a3
                    have hb := HVB.out
                    simp at hb
                    subst hb
                    go_wp2_with fail
                    go_meet
                    exact ⟨rfl, by (repeat (with_reducible first | exact Ext.refl _ | assumption | refine Ext.drew ?_ | refine Ext.drewN ?_ _ | refine Ext.alloc ?_ _ | refine Ext.trans ?_ (by with_reducible assumption)))⟩
                · subst a1
                  subst a6
                  have hb := HVB.out
                  simp at hb
                  subst hb
                  have a5' : ((n' : Int) != st) = true := by simp [a5]
                  clear a5
                  go_wp2_with fail
                  go_meet
                  exact ⟨rfl, by (repeat (with_reducible first | exact Ext.refl _ | assumption | refine Ext.drew ?_ | refine Ext.drewN ?_ _ | refine Ext.alloc ?_ _ | refine Ext.trans ?_ (by with_reducible assumption)))⟩
                · have hrg : 0 ≤ i ∧ i < m ∧ m ≤ 200 ∧ st = (stepsN i.toNat m.toNat : Nat) := by have := HS.out; omega
                  subst a1
                  subst a7
                  have hb := HVB.out
                  simp at hb
                  subst hb
                  obtain ⟨r1, r2, r3, r4⟩ := hrg
                  obtain ⟨m, rfl⟩ := Int.eq_ofNat_of_zero_le (show 0 ≤ m by omega)
                  obtain ⟨i, rfl⟩ := Int.eq_ofNat_of_zero_le (show 0 ≤ i by omega)
                  rw [Int.toNat_natCast, Int.toNat_natCast] at r4 a6
                  have U1 := Lib.hid fun W => RUp_any m i m s A' n' c' ps W (Nat.le_refl _) (by omega) (by omega) (by omega) (by omega)
                  have a5' : ((n' : Int) != st) = false := by simp [a5]
                  have a6' : (upL i m s ps != root) = true := by simp [a6]
                  generalize upL i m s ps = up at *
                  clear a5 a6 r4
                  go_wp2_with fail
                  refine (U1.out _ (hr'.ext X6) hm' G2.out G3.out).mono ?_
                  rintro _ w7 ⟨rfl, hb7⟩
                  go_wp2_with fail
                  go_meet
                  exact ⟨rfl, by (repeat (with_reducible first | exact Ext.refl _ | assumption | refine Ext.drew ?_ | refine Ext.drewN ?_ _ | refine Ext.alloc ?_ _ | refine Ext.trans ?_ (by with_reducible assumption)))⟩
                · have hrg : 0 ≤ i ∧ i < m ∧ m ≤ 200 ∧ st = (stepsN i.toNat m.toNat : Nat) := by have := HS.out; omega
                  subst a1
                  subst a7
                  have hb := HVB.out
                  simp at hb
                  subst hb
                  obtain ⟨r1, r2, r3, r4⟩ := hrg
                  obtain ⟨m, rfl⟩ := Int.eq_ofNat_of_zero_le (show 0 ≤ m by omega)
                  obtain ⟨i, rfl⟩ := Int.eq_ofNat_of_zero_le (show 0 ≤ i by omega)
                  rw [Int.toNat_natCast, Int.toNat_natCast] at r4 a6
                  have U1 := Lib.hid fun W => RUp_any m i m s A' n' c' ps W (Nat.le_refl _) (by omega) (by omega) (by omega) (by omega)
                  have a5' : ((n' : Int) != st) = false := by simp [a5]
                  rw [a6] at U1
                  clear a5 a6 r4
                  go_wp2_with fail
                  refine (U1.out _ (hr'.ext X6) hm' G2.out G3.out).mono ?_
                  rintro _ w7 ⟨rfl, hb7⟩
                  go_wp2_with fail
                  go_meet
                  exact ⟨rfl, by (repeat (with_reducible first | exact Ext.refl _ | assumption | refine Ext.drew ?_ | refine Ext.drewN ?_ _ | refine Ext.alloc ?_ _ | refine Ext.trans ?_ (by with_reducible assumption)))⟩
              case rest =>
                obtain ⟨rfl, hb7⟩ := hcut
                have X7 := X6.trans hb7
                go_wp2_with fail
                refine (PCheck_any root m i s A' n' c' ps _ (hr'.ext X7) hm').mono ?_
                rw [E5.out]
                rintro _ w8 ⟨rfl, hb8⟩
                have X8 := X7.trans hb8
                go_wp2_with fail
                refine (Error_same k3 _ (hg.ext X8)).mono ?_
                rintro _ w9 ⟨rfl, hb9⟩
                go_wp2_with fail
                go_ret
                exact ⟨ret_bool (by simp), X8.trans hb9⟩
end Go.Proofs.YtgfkalhpefjenaaDoor.proofTells
