import Derived.Test.YtgfkalhpefjenaaDoorR5
import Derived.Test.YtgfkalhpefjenaaDoorTot2
import Derived.Test.YtgfkalhpefjenaaDoorClash4
import Derived.Deep.CutBlock
namespace Go.Proofs.YtgfkalhpefjenaaDoor.treeTells
open Go.RowKit Go.WideShapes
set_option linter.unusedVariables false
attribute [local go_sem ↓] Go.wp_at_zero Go.wp_at_succ

theorem ways (xs : List Int) (i j : Int) (n : Nat) (hx : xs.length = n) : (leafsK xs ≠ 0 ∧ atK xs i j = leafsK xs) ∨ (leafsK xs = 0 ∧ i < 0 ∧ atK xs i j = 1) ∨ (leafsK xs = 0 ∧ 0 ≤ i ∧ j < i ∧ atK xs i j = 1) ∨ (leafsK xs = 0 ∧ 0 ≤ i ∧ i ≤ j ∧ (n : Int) < j ∧ atK xs i j = 1) ∨ (leafsK xs = 0 ∧ 0 ≤ i ∧ i ≤ j ∧ j ≤ (n : Int) ∧ atK xs i j = 0) := by
  by_cases h0 : leafsK xs = 0
  · have hk := leafsK_zero h0
    by_cases h : 0 ≤ i ∧ i ≤ j ∧ j ≤ xs.length
    · have := atK_ok hk h; omega
    · have := atK_range hk h; omega
  · exact .inl ⟨h0, atK_bad h0⟩
theorem sways (n : Int) : (n < 2 ∧ splitK n = 1 ∧ splitV n = 0) ∨ (2 ≤ n ∧ 200 < n ∧ splitK n = 1 ∧ splitV n = 0) ∨ (2 ≤ n ∧ n ≤ 200 ∧ splitK n = 0 ∧ splitV n = (half n.toNat : Nat)) := by
  unfold splitK splitV
  by_cases h : 2 ≤ n ∧ n ≤ 200
  · rw [if_pos h, if_pos h]; exact .inr (.inr ⟨h.1, h.2, rfl, rfl⟩)
  · rw [if_neg h, if_neg h]; omega
theorem zeroC (w : World) : Bk (w.alloc (.cells #[.string ⟨#[]⟩, .string ⟨#[]⟩] 96)) w.heap.size 96 #[.string ⟨#[]⟩, .string ⟨#[]⟩] := Bk.at_ _ _ _ _ rfl

set_option maxRecDepth 100000 in
set_option maxHeartbeats 8000000 in
theorem walk (A : Option Addr) (n c : Nat) (xs : List Int) (i j m : Int) (A1 : Option Addr) (n1 c1 : Nat) (a : List ByteArray) (A2 : Option Addr) (n2 c2 : Nat) (b : List ByteArray) (w : World) (hl : xs.length = n) (hm : c ≤ maxLen) (hr : Rd w 1 A n c (xs.map (Value.int .i64))) (hgd : ∀ y ∈ xs, igood y) (h0 : igood i) (h1 : igood j) (h2 : igood m)
    (hl1 : a.length = n1) (hm1 : c1 ≤ maxLen) (hr1 : Rd w 1 A1 n1 c1 (a.map Value.string)) (hgd1 : ∀ y ∈ a, sgood y) (hl2 : b.length = n2) (hm2 : c2 ≤ maxLen) (hr2 : Rd w 1 A2 n2 c2 (b.map Value.string)) (hgd2 : ∀ y ∈ b, sgood y) (hg : ErrG w) :
    Calls Tryd.prog 12 #[.slice A n c, .int .i64 i, .int .i64 j, .int .i64 m, .slice A1 n1 c1, .slice A2 n2 c2] w fun e w' => e = .returned (.bool true) ∧ Ext w w' := by
  have hlc := hr.2.1
  have hlc1 := hr1.2.1
  have hlc2 := hr2.2.1
  have hW := ways xs i j n hl
  have hS := sways m
  have hC := coll_ways a b
  obtain ⟨k0, e0⟩ : ∃ k, k = leafsK xs := ⟨_, rfl⟩
  obtain ⟨rv, e1⟩ : ∃ k, k = rootV xs := ⟨_, rfl⟩
  obtain ⟨k1, e2⟩ : ∃ k, k = atK xs i j := ⟨_, rfl⟩
  obtain ⟨av, e3⟩ : ∃ k, k = atV xs i j := ⟨_, rfl⟩
  obtain ⟨k2, e4⟩ : ∃ k, k = splitK m := ⟨_, rfl⟩
  obtain ⟨sv, e5⟩ : ∃ k, k = splitV m := ⟨_, rfl⟩
  obtain ⟨k3, e6⟩ : ∃ k, k = collK a b := ⟨_, rfl⟩
  obtain ⟨cx, e7⟩ : ∃ s, s = (collV a b).1 := ⟨_, rfl⟩
  obtain ⟨cy, e8⟩ : ∃ s, s = (collV a b).2 := ⟨_, rfl⟩
  obtain ⟨kd, HKD⟩ : ∃ kd : Int, Hid ((dataK a ≠ 0 → kd = dataK a) ∧ (dataK a = 0 → kd = dataK b)) := by
    by_cases h : dataK a = 0
    · exact ⟨dataK b, fun h' => absurd h h', fun _ => rfl⟩
    · exact ⟨dataK a, fun _ => rfl, fun h' => absurd h' h⟩
  rw [← e0, ← e2] at hW
  rw [← e4, ← e5] at hS
  rw [← e6, hl1, hl2] at hC
  have HR0 : Hid ((k0 = 0 → leafsOk xs ∧ rv = ofL xs) ∧ (k0 ≠ 0 → rv = 0)) := by
    refine ⟨fun h => ?_, fun h => ?_⟩
    · rw [e0] at h; exact ⟨leafsK_zero h, by rw [e1]; exact if_pos h⟩
    · rw [e0] at h; rw [e1]; exact if_neg h
  have HA0 : Hid ((k1 = 0 → leafsOk xs ∧ 0 ≤ i ∧ i ≤ j ∧ j ≤ (n : Int) ∧ av = ofL ((xs.take j.toNat).drop i.toNat)) ∧ (k1 ≠ 0 → av = 0)) := by
    refine ⟨fun h => ?_, fun h => ?_⟩
    · have hz : k0 = 0 := by omega
      rw [e0] at hz
      refine ⟨leafsK_zero hz, by omega, by omega, by omega, ?_⟩
      rw [e2] at h; rw [e3]; exact if_pos h
    · rw [e2] at h; rw [e3]; exact if_neg h
  have HCV : Hid ((k3 = 0 → cx = (clashL a b).1 ∧ cy = (clashL a b).2) ∧ (k3 ≠ 0 → cx = ⟨#[]⟩ ∧ cy = ⟨#[]⟩)) := by
    refine ⟨fun h => ?_, fun h => ?_⟩
    · rw [e6] at h
      have hv : collV a b = clashL a b := if_pos h
      rw [e7, e8, hv]; exact ⟨rfl, rfl⟩
    · rw [e6] at h
      have hv : collV a b = (⟨#[]⟩, ⟨#[]⟩) := if_neg h
      rw [e7, e8, hv]; exact ⟨rfl, rfl⟩
  obtain ⟨tb, HB⟩ : ∃ tb : Bool, Hid ((tb = true → k1 = 1) ∧ (tb = false → k1 = k0)) ∧ Hid (tb = decide (k0 = 0 ∧ ¬ (0 ≤ i ∧ i ≤ j ∧ j ≤ n))) := by
    refine ⟨decide (k0 = 0 ∧ ¬ (0 ≤ i ∧ i ≤ j ∧ j ≤ n)), ⟨fun h => ?_, fun h => ?_⟩, rfl⟩
    · have := of_decide_eq_true h; omega
    · have := of_decide_eq_false h; omega
  obtain ⟨HB1, HB2⟩ := HB
  have HW := Lib.hid hW
  have HS := Lib.hid hS
  have HC := Lib.hid hC
  have E0 := Lib.hid e0.symm
  have E1 := Lib.hid e1.symm
  have E2 := Lib.hid e2.symm
  have E3 := Lib.hid e3.symm
  have E4 := Lib.hid e4.symm
  have E5 := Lib.hid e5.symm
  have E6 := Lib.hid e6.symm
  have E7 := Lib.hid e7.symm
  have E8 := Lib.hid e8.symm
  have HX := Lib.hid hl
  have HX1 := Lib.hid hl1
  have HX2 := Lib.hid hl2
  clear hW hS hC e0 e1 e2 e3 e4 e5 e6 e7 e8 hl hl1 hl2 hgd hgd1 hgd2 h0 h1 h2
  go_enter Tryd.func12, Tryd.ntmps12
  go_wp2_with fail
  refine (RLeafs_tot A n c xs _ hr hm).mono ?_
  rw [E0.out]
  rintro _ w' ⟨rfl, rfl⟩
  go_wp2_with fail
  refine (TCheck_any A n c xs _ hr hm).mono ?_
  rw [E0.out]
  rintro _ w' ⟨rfl, rfl⟩
  go_wp2_with fail
  refine (Error_same k0 _ hg).mono ?_
  rintro _ w1 ⟨rfl, X1⟩
  go_upto_if 37 with (fail)
  go_cut [15] (fun v wc => v = .int .i64 rv ∧ Ext w wc)
  case first =>
    as_aux_lemma =>
    by_cases hk : k0 = 0
    · obtain ⟨b0, b1⟩ := HR0.out.1 hk
      subst hk
      have B0 := Lib.hid b0
      have B1 := Lib.hid b1
      have hn2 : n ≤ 200 := by have := b0.1; rw [HX.out] at this; exact this
      clear b0 b1
      go_wp2_with fail
      refine (RRoot_any n A n c xs _ (Nat.le_refl _) (hr.ext X1) hm (by omega) B0.out.2).mono ?_
      rintro _ w2 ⟨rfl, hb2⟩
      go_wp2_with fail
      go_meet
      exact ⟨by rw [B1.out], X1.trans hb2⟩
    · obtain rfl := HR0.out.2 hk
      have hk' : (k0 == 0) = false := by simp [hk]
      clear hk
      go_wp2_with fail
      go_meet
      exact ⟨rfl, X1⟩
  case rest =>
    as_aux_lemma =>
    obtain ⟨rfl, X2⟩ := hcut
    clear X1
    go_wp2_with fail
    refine (Root_any A n c xs _ (hr.ext X2) hm).mono ?_
    rw [E0.out, E1.out]
    rintro _ w3 ⟨rfl, hb3⟩
    have X3 := X2.trans hb3
    go_wp2_with fail
    refine (Error_same k0 _ (hg.ext X3)).mono ?_
    rintro _ w4 ⟨rfl, hb4⟩
    have X4 := X3.trans hb4
    clear hb3 hb4 X2 X3
    go_upto_region 9 with (fail)
    go_cut [64] (fun v wc => v = .bool tb ∧ w4 = wc)
    case first =>
      as_aux_lemma =>
      rcases HW.out with ⟨a1, a2⟩ | ⟨a1, a2, a3⟩ | ⟨a1, a2, a3, a4⟩ | ⟨a1, a2, a3, a4, a5⟩ | ⟨a1, a2, a3, a4, a5⟩
      · have hb := HB2.out
        rw [decide_eq_false (by omega)] at hb
        subst hb
        have a1' : (k0 == 0) = false := by simp [a1]
        clear a1 a2
        go_wp2_with fail
        go_meet
        exact ⟨rfl, rfl⟩
      all_goals
        subst a1
        have hb := HB2.out
        first
          | rw [decide_eq_true (by omega)] at hb
          | rw [decide_eq_false (by omega)] at hb
        subst hb
        go_wp2_with fail
        go_meet
        exact ⟨by first | rfl | (congr 1; simp; omega), rfl⟩
    case rest =>
      as_aux_lemma =>
      obtain ⟨rfl, rfl⟩ := hcut
      go_upto_if 64 with (fail)
      go_cut [13] (fun v wc => v = .int .i64 k1 ∧ w4 = wc)
      case first =>
        as_aux_lemma =>
        cases tb
        · obtain rfl := HB1.out.2 rfl
          go_wp2_with fail
          go_meet
          exact ⟨rfl, rfl⟩
        · obtain rfl := HB1.out.1 rfl
          go_wp2_with fail
          go_meet
          exact ⟨rfl, rfl⟩
      case rest =>
        as_aux_lemma =>
        obtain ⟨rfl, rfl⟩ := hcut
        go_upto_if 66 with (fail)
        go_cut [19] (fun v wc => v = .int .i64 av ∧ Ext w wc)
        case first =>
          as_aux_lemma =>
          by_cases hk : k1 = 0
          · obtain ⟨b0, b1, b2, b3, b4⟩ := HA0.out.1 hk
            subst hk
            obtain ⟨j, rfl⟩ := Int.eq_ofNat_of_zero_le (show 0 ≤ j by omega)
            obtain ⟨i, rfl⟩ := Int.eq_ofNat_of_zero_le (show 0 ≤ i by omega)
            rw [Int.toNat_natCast, Int.toNat_natCast] at b4
            have B0 := Lib.hid b0
            have hn2 : n ≤ 200 := by have := b0.1; rw [HX.out] at this; exact this
            have R := Rd_part (hr.ext X4) (i := i) (j := j) (by omega) (by omega)
            have hva := allV_drop (allV_take b0.2 j) i
            have B4 := Lib.hid b4
            have q1 : (j : Int) ≤ (c : Int) := by omega
            clear b0 b4
            by_cases hci : c = i
            · have hji : j = i := by omega
              have HQ : Hid ((xs.take j).drop i = []) := by
                show _ = _
                apply List.eq_nil_of_length_eq_zero
                rw [List.length_drop, List.length_take]
                omega
              subst hji
              subst hci
              clear R
              go_wp2_with fail
              refine (RRoot_any 0 _ 0 _ [] _ (Nat.le_refl _) (Rd.nil _ _ _ _) (by simp [maxLen]) (by omega) rfl).mono ?_
              rintro _ w5 ⟨rfl, hb5⟩
              go_wp2_with fail
              go_meet
              exact ⟨by rw [B4.out, HQ.out], X4.trans hb5⟩
            · rw [if_neg hci] at R
              go_wp2_with fail
              refine (RRoot_any (j - i) _ (j - i) (c - i) ((xs.take j).drop i) _ (Nat.le_refl _) R (by omega) (by omega) hva).mono ?_
              rintro _ w5 ⟨rfl, hb5⟩
              go_wp2_with fail
              go_meet
              exact ⟨by rw [B4.out], X4.trans hb5⟩
          · obtain rfl := HA0.out.2 hk
            have hk' : (k1 == 0) = false := by simp [hk]
            clear hk
            go_wp2_with fail
            go_meet
            exact ⟨rfl, X4⟩
        case rest =>
          as_aux_lemma =>
          obtain ⟨rfl, X5⟩ := hcut
          clear X4
          go_wp2_with fail
          refine (At_any A n c xs i j _ (hr.ext X5) hm).mono ?_
          rw [E2.out, E3.out]
          rintro _ w6 ⟨rfl, hb6⟩
          have X6 := X5.trans hb6
          go_wp2_with fail
          refine (Error_same k1 _ (hg.ext X6)).mono ?_
          rintro _ w7 ⟨rfl, hb7⟩
          have X7 := X6.trans hb7
          clear hb6 hb7 X5 X6
          obtain ⟨sb, HSB⟩ : ∃ sb : Bool, Hid (sb = decide (k2 = 0)) := ⟨_, rfl⟩
          go_upto_region 17 with (fail)
          go_cut [87] (fun v wc => v = .bool sb ∧ w7 = wc)
          case first =>
            as_aux_lemma =>
            rcases HS.out with ⟨a1, a2, a3⟩ | ⟨a1, a2, a3, a4⟩ | ⟨a1, a2, a3, a4⟩
            all_goals
              have hb := HSB.out
              first
                | rw [decide_eq_true (by omega)] at hb
                | rw [decide_eq_false (by omega)] at hb
              subst hb
              go_wp2_with fail
              go_meet
              exact ⟨by first | rfl | (congr 1; simp; omega), rfl⟩
          case rest =>
            as_aux_lemma =>
            obtain ⟨rfl, rfl⟩ := hcut
            go_upto_if 87 with (fail)
            go_cut [13, 22] (fun e v wc => e = .int .i64 k2 ∧ v = .int .i64 sv ∧ w7 = wc)
            case first =>
              as_aux_lemma =>
              rcases HS.out with ⟨a1, a2, a3⟩ | ⟨a1, a2, a3, a4⟩ | ⟨a1, a2, a3, a4⟩
              · have hb := HSB.out
                subst a2
                subst a3
                rw [decide_eq_false (by omega)] at hb
                subst hb
                go_wp2_with fail
                go_meet
                exact ⟨rfl, rfl, rfl⟩
              · have hb := HSB.out
                subst a3
                subst a4
                rw [decide_eq_false (by omega)] at hb
                subst hb
                go_wp2_with fail
                go_meet
                exact ⟨rfl, rfl, rfl⟩
              · have hb := HSB.out
                subst a3
                rw [decide_eq_true (by omega)] at hb
                subst hb
                obtain ⟨m, rfl⟩ := Int.eq_ofNat_of_zero_le (show 0 ≤ m by omega)
                rw [Int.toNat_natCast] at a4
                have A4 := Lib.hid a4
                clear a4
                go_wp2_with fail
                refine (RHalf_any m _ (by omega) (by omega)).mono ?_
                rintro _ w8 ⟨rfl, rfl⟩
                go_wp2_with fail
                go_meet
                exact ⟨rfl, by rw [A4.out], rfl⟩
            case rest =>
              as_aux_lemma =>
              obtain ⟨rfl, rfl, rfl⟩ := hcut
              go_wp2_with fail
              refine (Split_any m _).mono ?_
              rw [E4.out, E5.out]
              rintro _ w8 ⟨rfl, hb8⟩
              have X8 := X7.trans hb8
              go_wp2_with fail
              refine (Error_same k2 _ (hg.ext X8)).mono ?_
              rintro _ w9 ⟨rfl, hb9⟩
              have X9 := X8.trans hb9
              clear hb8 hb9 X7 X8
              obtain ⟨ka, hka⟩ : ∃ k, k = dataK a := ⟨_, rfl⟩
              obtain ⟨kb, hkb⟩ : ∃ k, k = dataK b := ⟨_, rfl⟩
              rw [← hka, ← hkb] at HKD
              have HKA := Lib.hid hka.symm
              have HKB := Lib.hid hkb.symm
              clear hka hkb
              go_wp2_with fail
              refine (RData_any A1 n1 c1 a _ (hr1.ext X9) hm1).mono ?_
              rw [HKA.out]
              rintro _ w10 ⟨rfl, rfl⟩
              go_upto_if 101 with (fail)
              go_cut [13] (fun v wc => v = .int .i64 kd ∧ w9 = wc)
              case first =>
                as_aux_lemma =>
                by_cases hk : ka = 0
                · obtain rfl := HKD.out.2 hk
                  subst hk
                  go_wp2_with fail
                  refine (RData_any A2 n2 c2 b _ (hr2.ext X9) hm2).mono ?_
                  rw [HKB.out]
                  rintro _ w10 ⟨rfl, rfl⟩
                  go_wp2_with fail
                  go_meet
                  exact ⟨rfl, rfl⟩
                · obtain rfl := HKD.out.1 hk
                  have hk' : (kd == 0) = false := by simp [hk]
                  clear hk
                  go_wp2_with fail
                  go_meet
                  exact ⟨rfl, rfl⟩
              case rest =>
                as_aux_lemma =>
                obtain ⟨rfl, rfl⟩ := hcut
                -- TAIL
                go_upto_block 0 with (fail)
                go_cut [25, 26] (fun s _ wc => s = .bool (sameB a b) ∧ Ext w9 wc)
                case first =>
                  as_aux_lemma =>
                  have hmx : c1 ≤ 9223372036854775807 := by have := hm1; unfold maxLen at this; omega
                  go_wp2_with fail
                  go_loopw [25, 26] (fun s x wr => ∃ (k : Nat) (sm : Bool), s = .bool sm ∧ x = .int .i64 k ∧ k ≤ n1 ∧ Ext w9 wr ∧ Hid ((sm = true → n1 = n2 ∧ a.take k = b.take k) ∧ (sm = false → a ≠ b))) (fun _ x _ => n1 - (intOf x).toNat)
                  case atStart =>
                    refine ⟨0, _, rfl, rfl, Nat.zero_le _, by (repeat (with_reducible first | exact Ext.refl _ | assumption | refine Ext.drew ?_ | refine Ext.drewN ?_ _ | refine Ext.alloc ?_ _ | refine Ext.trans ?_ (by with_reducible assumption))), fun h => ⟨?_, rfl⟩, fun h => ?_⟩
                    · have := beq_iff_eq.1 h; omega
                    · intro e
                      have h' := beq_eq_false_iff_ne.1 h
                      have h1 := HX1.out
                      have h2 := HX2.out
                      rw [e] at h1
                      omega
                  case round =>
                    obtain ⟨k, sm, rfl, rfl, hk, hbw, HK⟩ := hrel
                    cases sm
                    · have HF := Lib.hid (sameB_no (HK.out.2 rfl))
                      by_cases hc : k < n1
                      all_goals
                        go_wp2_with fail
                        go_meet
                        exact ⟨by rw [HF.out], hbw⟩
                    · by_cases hc : k < n1
                      · obtain ⟨hnn, htk⟩ := HK.out.1 rfl
                        have h1 := List.getElem?_eq_getElem (l := a) (i := k) (by rw [HX1.out]; exact hc)
                        have h2 := List.getElem?_eq_getElem (l := b) (i := k) (by rw [HX2.out]; omega)
                        generalize a[k]'(by rw [HX1.out]; exact hc) = y at *
                        generalize b[k]'(by rw [HX2.out]; omega) = z at *
                        obtain ⟨ad, rfl, hb, c0⟩ := (hr1.ext (X9.trans hbw)).getS h1
                        obtain ⟨ad', rfl, hb', c0'⟩ := (hr2.ext (X9.trans hbw)).getS h2
                        have hcN : (k : Int) < (n1 : Int) := by omega
                        have hcN' : (k : Int) < (n2 : Int) := by omega
                        have h0N : (0 : Int) ≤ (k : Int) := by omega
                        have HNN : Hid (n1 = n2) := hnn
                        by_cases e : y = z
                        · subst e
                          have HT := Lib.hid (take_same htk h1 h2)
                          clear h1 h2 hnn htk
                          go_wp2_with fail
                          go_quiet (fail)
                          go_wp2_with fail
                          go_roundw
                          case rel => exact ⟨k + 1, true, by simp, by go_num, by omega, by (repeat (with_reducible first | exact Ext.refl _ | assumption | refine Ext.drew ?_ | refine Ext.drewN ?_ _ | refine Ext.alloc ?_ _ | refine Ext.trans ?_ (by with_reducible assumption))), (fun _ => ⟨HNN.out, HT.out⟩), (fun h => by cases h)⟩
                          case measure => simp [intOf]; omega
                        · have HT := Lib.hid (take_part h1 h2 e)
                          have e1 := (Lib.bytes_beq_false_iff y z).2 e
                          clear h1 h2 e hnn htk
                          go_wp2_with fail
                          go_quiet (fail)
                          go_wp2_with fail
                          go_roundw
                          case rel => exact ⟨k + 1, false, rfl, by go_num, by omega, by (repeat (with_reducible first | exact Ext.refl _ | assumption | refine Ext.drew ?_ | refine Ext.drewN ?_ _ | refine Ext.alloc ?_ _ | refine Ext.trans ?_ (by with_reducible assumption))), (fun h => by cases h), (fun _ => HT.out)⟩
                          case measure => simp [intOf]; omega
                      · obtain rfl : k = n1 := by omega
                        obtain ⟨hnn, htk⟩ := HK.out.1 rfl
                        have HT := Lib.hid (sameB_yes (take_whole htk HX1.out (HX2.out.trans hnn.symm)))
                        clear hnn htk
                        go_wp2_with fail
                        go_meet
                        exact ⟨by rw [HT.out], hbw⟩
                case rest =>
                  as_aux_lemma =>
                  obtain ⟨rfl, hb10⟩ := hcut
                  obtain ⟨sm, hsm⟩ : ∃ sm, sm = sameB a b := ⟨_, rfl⟩
                  rw [← hsm]
                  have HSM := Lib.hid hsm
                  clear hsm
                  have X10 := X9.trans hb10
                  clear hb10 X9
                  go_upto_region 31 with (fail)
                  have BZ := zeroC wc
                  have XZ : Ext w (wc.alloc (.cells #[.string ⟨#[]⟩, .string ⟨#[]⟩] 96)) := X10.alloc _
                  obtain ⟨g, hgz⟩ : ∃ g, g = wc.heap.size := ⟨_, rfl⟩
                  have hgw : w.heap.size ≤ g := by have := X10.size; omega
                  rw [← hgz] at BZ ⊢
                  generalize wc.alloc (.cells #[.string ⟨#[]⟩, .string ⟨#[]⟩] 96) = wd at *
                  have HKW : Hid ((¬ dataOk a → kd = 4) ∧ (dataOk a → ¬ dataOk b → kd = 4) ∧ (dataOk a → dataOk b → kd = 0)) := by
                    refine ⟨fun h => ?_, fun h h' => ?_, fun h h' => ?_⟩
                    · have e := HKA.out; rw [dataK_bad h] at e
                      exact (HKD.out.1 (by rw [← e]; decide)).trans e.symm
                    · have e := HKA.out; rw [dataK_ok h] at e
                      have e' := HKB.out; rw [dataK_bad h'] at e'
                      exact (HKD.out.2 e.symm).trans e'.symm
                    · have e := HKA.out; rw [dataK_ok h] at e
                      have e' := HKB.out; rw [dataK_ok h'] at e'
                      exact (HKD.out.2 e.symm).trans e'.symm
                  obtain ⟨b1, HB1'⟩ : ∃ b1 : Bool, Hid (b1 = (decide (kd = 0) && !decide (n1 = n2))) := ⟨_, rfl⟩
                  clear hgz X10 HKD HKA HKB
                  go_cut [135] (fun v wx => v = .bool b1 ∧ wd = wx)
                  case first =>
                    as_aux_lemma =>
                    by_cases hk : kd = 0
                    · subst hk
                      by_cases hn : n1 = n2
                      · have hb := HB1'.out
                        have hn' : ((n1 : Int) != (n2 : Int)) = false := by simp [hn]
                        simp [hn] at hb
                        subst hb
                        clear hn
                        go_wp2_with fail
                        go_meet
                        exact ⟨rfl, rfl⟩
                      · have hb := HB1'.out
                        have hn' : ((n1 : Int) != (n2 : Int)) = true := by simp; omega
                        simp [hn] at hb
                        subst hb
                        clear hn
                        go_wp2_with fail
                        go_meet
                        exact ⟨rfl, rfl⟩
                    · have hb := HB1'.out
                      have hk' : (kd == 0) = false := by simp [hk]
                      simp [hk] at hb
                      subst hb
                      clear hk
                      go_wp2_with fail
                      go_meet
                      exact ⟨rfl, rfl⟩
                  case rest =>
                    as_aux_lemma =>
                    obtain ⟨rfl, rfl⟩ := hcut
                    go_upto_if 135 with (fail)
                    go_cut [13] (fun e wx => e = .int .i64 k3 ∧ Bk wx g 96 #[.string cx, .string cy] ∧ Ext w wx)
                    case first =>
                      as_aux_lemma =>
                      -- CHAIN
                      rcases HC.out with ⟨a1, hk⟩ | ⟨a1, a2, hk⟩ | ⟨a1, a2, a3, hk⟩ | ⟨a1, a2, a3, a4, hk⟩ | ⟨a1, a2, a3, a4, a5, hk⟩ | ⟨a1, a2, a3, a4, a5, hk⟩
                      · have hd := HKW.out.1 a1
                        obtain ⟨rfl, rfl⟩ := HCV.out.2 (by rw [hk]; decide)
                        subst hd
                        subst hk
                        have hb := HB1'.out
                        simp at hb
                        subst hb
                        clear a1
                        go_wp2_with fail
                        go_meet
                        exact ⟨rfl, BZ, XZ⟩
                      · have hd := HKW.out.2.1 a1 a2
                        obtain ⟨rfl, rfl⟩ := HCV.out.2 (by rw [hk]; decide)
                        subst hd
                        subst hk
                        have hb := HB1'.out
                        simp at hb
                        subst hb
                        clear a1 a2
                        go_wp2_with fail
                        go_meet
                        exact ⟨rfl, BZ, XZ⟩
                      · have hd := HKW.out.2.2 a1 a2
                        obtain ⟨rfl, rfl⟩ := HCV.out.2 (by rw [hk]; decide)
                        subst hd
                        subst hk
                        have hb := HB1'.out
                        simp [a3] at hb
                        subst hb
                        clear a1 a2 a3
                        go_wp2_with fail
                        go_meet
                        exact ⟨rfl, BZ, XZ⟩
                      · have hd := HKW.out.2.2 a1 a2
                        obtain ⟨rfl, rfl⟩ := HCV.out.2 (by rw [hk]; decide)
                        subst hd
                        subst hk
                        have hb := HB1'.out
                        simp [a3] at hb
                        subst hb
                        obtain rfl : sm = true := HSM.out.trans (sameB_yes a4)
                        clear a1 a2 a3 a4
                        go_wp2_with fail
                        go_meet
                        exact ⟨rfl, BZ, XZ⟩
                      · have hd := HKW.out.2.2 a1 a2
                        obtain ⟨rfl, rfl⟩ := HCV.out.2 (by rw [hk]; decide)
                        subst hd
                        subst hk
                        have hb := HB1'.out
                        simp [a3] at hb
                        subst hb
                        obtain rfl : sm = false := HSM.out.trans (sameB_no a4)
                        have OA := Lib.hid a1
                        have OB := Lib.hid a2
                        have a5' : (ofL (sumsD a) != ofL (sumsD b)) = true := by simp [a5]
                        have hn1 : n1 ≤ 200 := by have := a1.1; rw [HX1.out] at this; exact this
                        have hn2 : n2 ≤ 200 := by have := a2.1; rw [HX2.out] at this; exact this
                        clear a1 a2 a3 a4 a5
                        go_wp2_with fail
                        refine (RSums_any A1 n1 c1 a _ (hr1.ext XZ) hm1 (by omega) (fun s hs => by have := OA.out.2 s hs; omega)).mono ?_
                        rintro _ y1 ⟨⟨v1, rfl, own1⟩, hy1⟩
                        obtain ⟨D1, d1, rfl, hd1, RD1⟩ := own1.rd
                        go_wp2_with fail
                        refine (RRoot_any (sumsD a).length D1 _ d1 (sumsD a) _ (Nat.le_refl _) RD1 hd1 (by rw [sumsD_len a, HX1.out]; omega) (allV_sumsD a)).mono ?_
                        rintro _ y2 ⟨rfl, hy2⟩
                        go_wp2_with fail
                        refine (RSums_any A2 n2 c2 b _ (hr2.ext (XZ.trans (hy1.trans hy2))) hm2 (by omega) (fun s hs => by have := OB.out.2 s hs; omega)).mono ?_
                        rintro _ y3 ⟨⟨v3, rfl, own3⟩, hy3⟩
                        obtain ⟨D3, d3, rfl, hd3, RD3⟩ := own3.rd
                        go_wp2_with fail
                        refine (RRoot_any (sumsD b).length D3 _ d3 (sumsD b) _ (Nat.le_refl _) RD3 hd3 (by rw [sumsD_len b, HX2.out]; omega) (allV_sumsD b)).mono ?_
                        rintro _ y4 ⟨rfl, hy4⟩
                        go_wp2_with fail
                        go_meet
                        exact ⟨rfl, (((BZ.ext hy1).ext hy2).ext hy3).ext hy4, XZ.trans (hy1.trans (hy2.trans (hy3.trans hy4)))⟩
                      · have hd := HKW.out.2.2 a1 a2
                        obtain ⟨hcx, hcy⟩ := HCV.out.1 hk
                        subst hd
                        subst hk
                        have hb := HB1'.out
                        simp [a3] at hb
                        subst hb
                        obtain rfl : sm = false := HSM.out.trans (sameB_no a4)
                        have OA := Lib.hid a1
                        have OB := Lib.hid a2
                        have HCX := Lib.hid hcx.symm
                        have HCY := Lib.hid hcy.symm
                        have H5 := Lib.hid a5
                        have hn1 : n1 ≤ 200 := by have := a1.1; rw [HX1.out] at this; exact this
                        have hn0 : 1 ≤ n1 := by
                          rcases Nat.eq_zero_or_pos n1 with h0 | h0
                          · exact absurd ((List.eq_nil_of_length_eq_zero (HX1.out.trans h0)).trans (List.eq_nil_of_length_eq_zero (HX2.out.trans (a3.symm.trans h0))).symm) a4
                          · exact h0
                        subst a3
                        clear a1 a2 a4 a5 hcx hcy
                        go_wp2_with fail
                        refine (RSums_any A1 n1 c1 a _ (hr1.ext XZ) hm1 (by omega) (fun s hs => by have := OA.out.2 s hs; omega)).mono ?_
                        rintro _ y1 ⟨⟨v1, rfl, own1⟩, hy1⟩
                        obtain ⟨D1, d1, rfl, hd1, RD1⟩ := own1.rd
                        go_wp2_with fail
                        refine (RRoot_any (sumsD a).length D1 _ d1 (sumsD a) _ (Nat.le_refl _) RD1 hd1 (by rw [sumsD_len a, HX1.out]; omega) (allV_sumsD a)).mono ?_
                        rintro _ y2 ⟨rfl, hy2⟩
                        rw [H5.out]
                        go_wp2_with fail
                        refine (RSums_any A2 n1 c2 b _ (hr2.ext (XZ.trans (hy1.trans hy2))) hm2 (by omega) (fun s hs => by have := OB.out.2 s hs; omega)).mono ?_
                        rintro _ y3 ⟨⟨v3, rfl, own3⟩, hy3⟩
                        obtain ⟨D3, d3, rfl, hd3, RD3⟩ := own3.rd
                        go_wp2_with fail
                        refine (RRoot_any (sumsD b).length D3 _ d3 (sumsD b) _ (Nat.le_refl _) RD3 hd3 (by rw [sumsD_len b, HX2.out]; omega) (allV_sumsD b)).mono ?_
                        rintro _ y4 ⟨rfl, hy4⟩
                        have XY := XZ.trans (hy1.trans (hy2.trans (hy3.trans hy4)))
                        have BY := (((BZ.ext hy1).ext hy2).ext hy3).ext hy4
                        clear RD1 RD3 own1 own3
                        go_wp2_with fail
                        refine (RClash_any n1 A1 A2 n1 c1 c2 a b _ (Nat.le_refl _) (hr1.ext XY) (hr2.ext XY) hm1 hm2 hn0 (by omega) (fun s hs => by have := OA.out.2 s hs; omega) (fun s hs => by have := OB.out.2 s hs; omega)).mono ?_
                        rw [HCX.out, HCY.out]
                        rintro _ y5 ⟨rfl, hy5⟩
                        have BY5 := BY.ext hy5
                        have z0 := BY5.cell 0
                        have z1 := BY5.cell 1
                        have z2 := BY5.frozen 0
                        have z3 := BY5.frozen 1
                        go_wp2_with fail
                        go_meet
                        exact ⟨rfl, (BY5.set_ 0 (.string cx)).set_ 1 (.string cy), ((XY.trans hy5).setCell (p := ⟨g, 0, none⟩) hgw _).setCell (p := ⟨g, 1, none⟩) hgw _⟩
                    case rest =>
                      as_aux_lemma =>
                      obtain ⟨rfl, BC, XC⟩ := hcut
                      clear BZ XZ
                      go_wp2_with fail
                      refine (Collide_any A1 A2 n1 n2 c1 c2 a b _ (hr1.ext XC) (hr2.ext XC) hm1 hm2).mono ?_
                      rw [E6.out, E7.out, E8.out]
                      rintro _ y1 ⟨rfl, hy1⟩
                      have BC1 := BC.ext hy1
                      have XC1 := XC.trans hy1
                      go_wp2_with fail
                      have BN : Bk (y1.alloc (.cells #[.string cx, .string cy] 96)) y1.heap.size 96 #[.string cx, .string cy] := Bk.at_ _ _ _ _ rfl
                      have BC2 := BC1.alloc (.cells #[.string cx, .string cy] 96)
                      have XC2 : Ext w (y1.alloc (.cells #[.string cx, .string cy] 96)) := XC1.alloc _
                      generalize y1.alloc (.cells #[.string cx, .string cy] 96) = y2 at *
                      refine (Error_same k3 _ (hg.ext XC2)).mono ?_
                      rintro _ y3 ⟨rfl, hy3⟩
                      have BN3 := BN.ext hy3
                      have BC3 := BC2.ext hy3
                      have z0 := BN3.cell 0
                      have z1 := BN3.cell 1
                      have z2 := BC3.cell 0
                      have z3 := BC3.cell 1
                      go_wp2_with fail
                      go_ret
                      exact ⟨ret_bool (by simp), XC2.trans hy3⟩
end Go.Proofs.YtgfkalhpefjenaaDoor.treeTells
