import Derived.Test.YtcpnhmjibihpkaaPrune3
import Derived.Test.YtcpnhmjibihpkaaAt
import Derived.Test.YtcpnhmjibihpkaaQuiet
import Derived.Deep.DeepCutAuto
import Derived.Deep.CutBlock
namespace Go.Proofs.Ytcpnhmjibihpkaa.pruneKnows
open Go.RowKit
set_option linter.unusedVariables false
attribute [local go_sem ↓] Go.wp_at_zero Go.wp_at_succ

set_option maxRecDepth 100000 in
set_option maxHeartbeats 8000000 in
theorem walk (A : Option Addr) (n c : Nat) (xs : List Int) (A2 : Option Addr) (n2 c2 : Nat) (ys : List Int) (w : World) (hl : xs.length = n) (hm : c ≤ maxLen) (hr : Rd w 1 A n c (xs.map (Value.int .i64))) (hgd : ∀ y ∈ xs, igood y) (hl2 : ys.length = n2) (hm2 : c2 ≤ maxLen) (hr2 : Rd w 1 A2 n2 c2 (ys.map (Value.int .i64))) (hgd2 : ∀ y ∈ ys, igood y) :
    Calls Try.prog 14 #[.slice A n c, .slice A2 n2 c2] w fun e w' => e = .returned (.bool true) ∧ Ext w w' := by
  have hlc := hr.2.1
  have hlc2 := hr2.2.1
  have HX := Lib.hid hl
  have HY := Lib.hid hl2
  have hms : c ≤ 9223372036854775807 := by unfold maxLen at hm; omega
  have hms2 : c2 ≤ 9223372036854775807 := by unfold maxLen at hm2; omega
  have HPC0 : Hid (pcheck (nodeL 5 6) 2 0 5 [6] = 0) := by
    show _ = _
    have := pcheck_way (xs := [5, 6]) (n := 2) (i := 0) (z := 5) ⟨by decide, by decide⟩ rfl rfl
    rw [way_two.1, way_two.2] at this
    exact this
  have hv0 := Lib.hid (vld_node 5 6)
  clear hl hl2 hgd hgd2
  obtain ⟨nd, HND⟩ : ∃ q, Hid (nodeL 5 6 = q) := ⟨_, rfl⟩
  rw [HND.out] at HPC0 hv0
  go_enter Try.func14, Try.ntmps14
  go_wp2_with fail
  refine (Node_ok 5 6 _ (by decide) (by decide)).mono ?_
  rw [HND.out]
  rintro _ w1 ⟨rfl, hb1⟩
  go_wp2_with fail
  refine (PrNew_ok 2 nd _ (by decide) (by decide) hv0.out).mono ?_
  rintro _ w2 ⟨⟨ob, om, rfl, ht2⟩, hb2⟩
  have E2 : Ext w w2 := by (repeat (with_reducible first | exact Ext.refl _ | assumption | refine Ext.drew ?_ | refine Ext.drewN ?_ _ | refine Ext.alloc ?_ _ | refine Ext.trans ?_ (by with_reducible assumption)))
  have HT2 := Lib.hid (ht2.lower (b := w.heap.size) hb1.size)
  clear ht2
  go_upto_region 3 with (fail)
  have E3 : Ext w (w2.alloc (.cells #[.int .i64 6] 3)) := E2.alloc _
  have R3 : Rd (w2.alloc (.cells #[.int .i64 6] 3)) 1 (some ⟨w2.heap.size, 0, none⟩) 1 1 (([6] : List Int).map (Value.int .i64)) := ⟨rfl, Nat.le_refl _, fun _ => ⟨_, rfl, by simp, news_new w2 _ _ _ rfl⟩⟩
  have HT3 := Lib.hid (HT2.out.ext (Ext.alloc (Ext.refl w2) (.cells #[.int .i64 6] 3)))
  obtain ⟨g6, hg6⟩ : ∃ g, g = w2.heap.size := ⟨_, rfl⟩
  go_wp2_with fail
  refine (Learn_ok HT3.out (by omega) 0 5 (some ⟨w2.heap.size, 0, none⟩) 1 1 [6] R3 (by simp [maxLen]) (by decide) E3.size HPC0.out (.inl rfl) (kl_wf (by decide) (by decide))).mono ?_
  rintro _ w4 ⟨rfl, ht4, hg4⟩
  have E4 : Ext w w4 := HT3.out.step E3 (Nat.le_refl _) hg4
  rw [show cntL (fun _ => none) 0 0 = 1 from rfl] at ht4
  have HT4 := Lib.hid ht4
  clear ht4 hg4
  go_wp2_with fail
  refine (Many_any HT4.out).mono ?_
  rintro _ _ ⟨rfl, rfl⟩
  go_wp2_with fail
  obtain ⟨s1, s2, s3⟩ := set_known (K := fun _ => none) (i := 0) (size := 2) (z := 5) (p := [6]) (by decide)
  have HS1 := Lib.hid s1
  have HS2 := Lib.hid s2
  clear s1 s2 s3
  refine (Knows_any HT4.out 0 (by decide)).mono ?_
  rw [HS1.out, HS2.out]
  rintro _ w5 ⟨rfl, hb5⟩
  have E5 := E4.trans hb5
  clear HT2 HT3 HT4 HS1 HS2 HPC0 hv0 HND E2 E3 E4 R3 hb1 hb2 hb5 hg6
  simp only [errR_0]
  go_wp2_with fail
  by_cases hk : leafsOk xs
  · have HKK := Lib.hid hk
    have hn := hk.1
    rw [HX.out] at hn
    refine (Root_ok A n c xs _ (hr.ext E5) hm hk).mono ?_
    rintro _ w6 ⟨rfl, hb6⟩
    have E6 := E5.trans hb6
    by_cases hn0 : n = 0
    · subst hn0
      go_wp2_with fail
      go_ret
      exact ⟨rfl, E6⟩
    · have hn1 : ((n : Int) == 0) = false := by simp; omega
      have HV := Lib.hid (vld_ofL hk.2 (by have := HX.out; omega))
      obtain ⟨rt, HRT⟩ : ∃ q, Hid (ofL xs = q) := ⟨_, rfl⟩
      rw [HRT.out] at HV ⊢
      clear hk
      go_wp2_with fail
      refine (PrNew_ok (n : Int) rt _ (by omega) (by omega) HV.out).mono ?_
      rintro _ w7 ⟨⟨tb, mb, rfl, ht7⟩, hb7⟩
      have E7 := E6.trans hb7
      have HT7 := Lib.hid (ht7.lower (b := w.heap.size) E6.size)
      clear ht7 E5 E6 hb6 hb7
      go_wp2_with fail
      go_loopw [13] (fun x wr => ∃ (j : Nat) (K : Kn) (cnt N : Nat), x = .int .i64 j ∧ j ≤ n2 ∧ j ≤ 40 ∧ N ≤ 2 * j ∧ Ext w wr ∧ Hid (Tr wr w.heap.size tb mb (n : Int) rt N K cnt) ∧ Hid (KGood xs n K cnt)) (fun x _ => n2 - (intOf x).toNat)
      case atStart => exact ⟨0, fun _ => none, 0, 0, rfl, Nat.zero_le _, Nat.zero_le _, Nat.zero_le _, E7, HT7, KGood.start xs n⟩
      case round =>
        obtain ⟨j, K, cnt, N, rfl, hj, hj2, hN, hbw, HT, HG⟩ := hrel
        by_cases hc : j < n2 ∧ j < 40
        · obtain ⟨hc1, hc2⟩ := hc
          have i2 : (j : Int) < 40 := by omega
          obtain ⟨a, hga⟩ : ∃ a, ys[j]? = some a := ⟨_, List.getElem?_eq_getElem (by rw [HY.out]; exact hc1)⟩
          obtain ⟨ad2, hA2, hb2', hcell2⟩ := hr2.getI hga
          subst hA2
          have HC2 := Lib.hid hcell2
          have hcw2 : wr.cell? (ad2.add j) = some (.int .i64 a) := (hbw.cell (by rw [blk_add]; exact hb2')).trans hcell2
          have HGA := Lib.hid hga
          clear hga hcell2
          by_cases ha : 0 ≤ a ∧ a < n
          · obtain ⟨an, rfl⟩ := Int.eq_ofNat_of_zero_le ha.1
            have han : an < n := by omega
            obtain ⟨z, hgz⟩ : ∃ z, xs[an]? = some z := ⟨_, List.getElem?_eq_getElem (by rw [HX.out]; exact han)⟩
            obtain ⟨ad, hA, hb', hcell⟩ := hr.getI hgz
            subst hA
            have HC := Lib.hid hcell
            obtain ⟨q1, q2⟩ := pmV_way HKK.out HX.out han
            have HPC := Lib.hid (pcheck_way HKK.out HX.out hgz)
            have HWL := Lib.hid (way_len_le (xs := xs) (i := an) (by have := HX.out; omega))
            have HOTH := Lib.hid (HG.out.other hgz)
            have HG1 := Lib.hid (HG.out.learn hgz han)
            have HGZ := Lib.hid hgz
            rw [HRT.out] at HPC
            obtain ⟨p, HP⟩ : ∃ q, Hid (wayL xs an = q) := ⟨_, rfl⟩
            rw [HP.out] at q1 HPC HWL HG1
            have HQ1 := Lib.hid q1
            have HQ2 := Lib.hid q2
            have hwf := kl_wf (i := (an : Int)) (by omega) (by omega)
            clear hgz q1 q2 hcell
            go_wp2_with fail
            refine (PMake_any (some ad) n c xs (an : Int) (n : Int) _ (hr.ext hbw) hm).mono ?_
            rw [HQ1.out, HQ2.out]
            rintro _ w8 ⟨⟨v8, rfl, o8⟩, hb8⟩
            obtain ⟨A8, c8, rfl, hc8, R8⟩ := o8.rd
            have E8 := hbw.trans hb8
            have HT8 := Lib.hid (HT.out.ext hb8)
            have d1 : w8.cell? (ad2.add j) = some (.int .i64 an) := (E8.cell (by rw [blk_add]; exact hb2')).trans HC2.out
            have d2 : w8.cell? (ad.add an) = some (.int .i64 z) := (E8.cell (by rw [blk_add]; exact hb')).trans HC.out
            clear o8 hcw2
            simp only [errR_0]
            go_wp2_with fail
            have E8d : Ext w w8.drew := E8.drew
            have HT8d := Lib.hid (HT8.out.ext (Ext.drew (Ext.refl w8)))
            have hNN : N < 1000000 := by omega
            have L1 : ad2.block < w8.heap.size := Nat.lt_of_lt_of_le hb2' E8.size
            have L2 : ad.block < w8.heap.size := Nat.lt_of_lt_of_le hb' E8.size
            go_region_held3 (fun W => W.cell? (ad2.add j) = some (.int .i64 an) ∧ W.cell? (ad.add an) = some (.int .i64 z)) (first | exact ⟨d1, d2⟩ | exact ⟨(E9.cell (by rw [blk_add]; exact hb2')).trans HC2.out, (E9.cell (by rw [blk_add]; exact hb')).trans HC.out⟩) (first
              | (go_at_call 52; (with_reducible refine (Learn_ok HT8d.out hNN (an : Int) z A8 p.length c8 p R8.drew hc8 HWL.out E8d.size HPC.out HOTH.out hwf).mono ?_); rintro _ w9 ⟨rfl, ht9, hg9⟩; have E9 : Ext w w9 := HT8d.out.step E8d (Nat.le_refl _) hg9)
              | fail)
            have HT9 := Lib.hid ht9
            clear ht9 hg9 d1 d2
            have d1 : w9.cell? (ad2.add j) = some (.int .i64 an) := (E9.cell (by rw [blk_add]; exact hb2')).trans HC2.out
            have d2 : w9.cell? (ad.add an) = some (.int .i64 z) := (E9.cell (by rw [blk_add]; exact hb')).trans HC.out
            obtain ⟨s1, s2, s3⟩ := set_known (K := K) (i := (an : Int)) (size := (n : Int)) (z := z) (p := p) ⟨by omega, by omega⟩
            have HS1 := Lib.hid s1
            have HS2 := Lib.hid s2
            have HS3 := Lib.hid s3
            clear s1 s2 s3
            obtain ⟨K9, HK9⟩ : ∃ q, K.set (an : Int) (some (z, p)) = q := ⟨_, rfl⟩
            obtain ⟨n9, HN9⟩ : ∃ q, cntL K (an : Int) cnt = q := ⟨_, rfl⟩
            rw [HK9] at HT9 HS1 HS2 HS3 HG1
            rw [HN9] at HT9 HG1
            clear HK9 HN9
            go_wp2_with fail
            refine (Knows_any HT9.out (an : Int) (by omega)).mono ?_
            rw [HS1.out, HS2.out]
            rintro _ w10 ⟨rfl, hb10⟩
            have E10 := E9.trans hb10
            have HT10 := Lib.hid (HT9.out.ext hb10)
            clear d1 d2
            have d1 : w10.cell? (ad2.add j) = some (.int .i64 an) := (E10.cell (by rw [blk_add]; exact hb2')).trans HC2.out
            have d2 : w10.cell? (ad.add an) = some (.int .i64 z) := (E10.cell (by rw [blk_add]; exact hb')).trans HC.out
            simp only [errR_0]
            go_wp2_with fail
            refine (Prove_any HT10.out (an : Int) (by omega) (by rw [HS3.out]; exact HWL.out)).mono ?_
            rw [HS1.out, HS3.out]
            rintro _ w11 ⟨⟨v11, rfl, o11⟩, hb11⟩
            obtain ⟨A11, c11, rfl, hc11, R11⟩ := o11.rd
            have HA11 := Lib.hid (own_addr o11)
            have HML := Lib.hid HT10.out.mlt
            have E11 := E10.trans hb11
            have HT11 := Lib.hid (HT10.out.ext hb11)
            clear d1 d2 o11
            have d1 : w11.cell? (ad2.add j) = some (.int .i64 an) := (E11.cell (by rw [blk_add]; exact hb2')).trans HC2.out
            have d2 : w11.cell? (ad.add an) = some (.int .i64 z) := (E11.cell (by rw [blk_add]; exact hb')).trans HC.out
            simp only [errR_0]
            go_wp2_with fail
            refine (PCheck_any rt (n : Int) (an : Int) z A11 _ c11 p _ R11 hc11).mono ?_
            rw [HPC.out]
            rintro _ w12 ⟨rfl, hb12⟩
            have E12 := E11.trans hb12
            have HT12 := Lib.hid (HT11.out.ext hb12)
            have R12 := R11.ext hb12
            clear d1 d2
            have d1 : w12.cell? (ad2.add j) = some (.int .i64 an) := (E12.cell (by rw [blk_add]; exact hb2')).trans HC2.out
            have d2 : w12.cell? (ad.add an) = some (.int .i64 z) := (E12.cell (by rw [blk_add]; exact hb')).trans HC.out
            simp only [errR_0]
            by_cases h3 : j % 3 = 0
            · have h3' : ((j : Int) % 3 == 0) = true := by simp; omega
              go_wp2_with fail
              refine (Forget_ok HT12.out (an : Int) (by omega) HS1.out hwf).mono ?_
              rintro _ w13 ⟨rfl, ht13, hg13⟩
              have E13 : Ext w w13 := HT12.out.step E12 (Nat.le_refl _) hg13
              have R13 : Rd w13 1 A11 p.length c11 (p.map (Value.int .i64)) := R12.kept hg13 (fun _ ad3 h3 h4 => by
                have h5 := HA11.out ad3 h3
                have h6 := HML.out
                injection h4 with h4
                omega)
              have HG13 := Lib.hid (HG1.out.forget (fdK_known HS1.out) han)
              have HT13 := Lib.hid ht13
              have d1' : w13.cell? (ad2.add j) = some (.int .i64 an) := (E13.cell (by rw [blk_add]; exact hb2')).trans HC2.out
              clear ht13 hg13 d1 d2
              obtain ⟨K13, HK13⟩ : ∃ q, Hid (K9.set (an : Int) none = q) := ⟨_, rfl⟩
              have HN13 : Hid (K13 (an : Int) = none) := by show _ = _; rw [← HK13.out]; exact if_pos rfl
              rw [HK13.out] at HT13 HG13
              have HG14 := Lib.hid (HG13.out.learn HGZ.out han)
              rw [HP.out] at HG14
              have hNN1 : N + 1 < 1000000 := by omega
              go_wp2_with fail
              refine (Learn_ok HT13.out hNN1 (an : Int) z A11 p.length c11 p R13 hc11 HWL.out E13.size HPC.out (.inl HN13.out) hwf).mono ?_
              rintro _ w14 ⟨rfl, ht14, hg14⟩
              have E14 : Ext w w14 := HT13.out.step E13 (Nat.le_refl _) hg14
              have HT14 := Lib.hid ht14
              clear ht14 hg14
              go_wp2_with fail
              go_roundw
              case rel => exact ⟨j + 1, _, _, N + 1 + 1, by go_num, by omega, by omega, by omega, E14, HT14, HG14⟩
              case measure => simp [intOf]; omega
            · have h3' : ((j : Int) % 3 == 0) = false := by simp; omega
              go_wp2_with fail
              go_roundw
              case rel => exact ⟨j + 1, K9, n9, N + 1, by go_num, by omega, by omega, by omega, E12, HT12, HG1⟩
              case measure => simp [intOf]; omega
          · have hbad : pmK xs a (n : Int) = 1 := pmK_range HKK.out (by omega)
            have HB := Lib.hid hbad
            clear hbad
            obtain ⟨pv, HPV⟩ : ∃ q, Hid (pmV xs a (n : Int) = q) := ⟨_, rfl⟩
            go_wp2_with fail
            refine (PMake_any A n c xs a (n : Int) _ (hr.ext hbw) hm).mono ?_
            rw [HB.out, HPV.out, errR_ne (by decide)]
            simp only [errV]
            rintro _ w8 ⟨⟨v8, rfl, o8⟩, hb8⟩
            have E8 := hbw.trans hb8
            have HT8 := Lib.hid (HT.out.ext hb8)
            go_wp2_with fail
            go_roundw
            case rel => exact ⟨j + 1, K, cnt, N, by go_num, by omega, by omega, by omega, E8, HT8, HG⟩
            case measure => simp [intOf]; omega
        · have hfin := HG.out.le
          have HTT := HT
          by_cases h1 : j < n2
          · obtain rfl : j = 40 := by omega
            go_wp2_with fail
            refine (Many_any HTT.out).mono ?_
            rintro _ _ ⟨rfl, rfl⟩
            go_wp2_with fail
            go_ret
            exact ⟨rfl, hbw⟩
          · obtain rfl : j = n2 := by omega
            go_wp2_with fail
            refine (Many_any HTT.out).mono ?_
            rintro _ _ ⟨rfl, rfl⟩
            go_wp2_with fail
            go_ret
            exact ⟨rfl, hbw⟩
  · refine (Root_bad A n c xs _ (hr.ext E5) hm hk).mono ?_
    rintro _ w6 ⟨rfl, hb6⟩
    have E6 := E5.trans hb6
    simp only [errV]
    go_wp2_with fail
    go_ret
    exact ⟨rfl, E6⟩
end Go.Proofs.Ytcpnhmjibihpkaa.pruneKnows
