import Derived.Test.YtblojobgchkipaaLsm12
import Derived.Test.YtblojobgchkipaaPairsSame
import Derived.Deep.DeepCutAuto
import Derived.Deep.CutRange
import Derived.Deep.RegionHeld3
import Derived.BigQuiet
namespace Go.Proofs.Ytblojobgchkipaa.lsmSame
open Go.RowKit Go.WideShapes
set_option linter.unusedVariables false
attribute [local go_sem ↓] Go.wp_at_zero Go.wp_at_succ

def pA : Pr := ⟨⟨#[97]⟩, ⟨#[120]⟩, false⟩
theorem a_key : putK [] pA = 0 := by decide
theorem a_store : storeL [] pA = [pA] := by unfold storeL; rw [if_pos a_key]; rfl
theorem a_young : doY 1 [] pA = [] := by unfold doY; rw [if_pos ⟨a_key, by rw [a_store]; exact Nat.le_refl _⟩]
theorem a_tabs : doT 1 [] [] pA = [[pA]] := by unfold doT; rw [if_pos ⟨a_key, by rw [a_store]; exact Nat.le_refl _⟩, a_store]; rfl
theorem a_see : seeL [] [[pA]] ⟨#[97]⟩ = some ⟨#[120]⟩ := rfl

set_option maxRecDepth 100000 in
set_option maxHeartbeats 2000000 in
theorem walk (lim0 : Int) (A : Option Addr) (m c : Nat) (xs : List Int) (A' : Option Addr) (n c' : Nat) (l : List Pr) (w : World) (z0 : (Lit.int IntKind.i64 lim0).wf = true) (hxs : xs.length = m) (hm : c ≤ maxLen) (hrs : Rd w 1 A m c (xs.map (Value.int .i64))) (hgs : ∀ y ∈ xs, (Lit.int IntKind.i64 y).wf = true) (hx : l.length = n) (hm' : c' ≤ maxLen) (R : Rd w 3 A' n c' (l.flatMap Pr.cells)) :
    Calls Try.prog 7 #[.int .i64 lim0, .slice A m c, .slice A' n c'] w fun e w' => e = .returned (.bool true) ∧ Ext w w' := by
  obtain ⟨hE, hN, hG⟩ := errR_rules
  have hok1 : isOk 1 = false := rfl
  have hms : c ≤ 9223372036854775807 := by unfold maxLen at hm; omega
  have hms' : c' ≤ 9223372036854775807 := by unfold maxLen at hm'; omega
  have HXS := Lib.hid hxs
  have HX := Lib.hid hx
  have HSL := Lib.hid hrs.2.1
  have HLL := Lib.hid R.2.1
  have HRS := Lib.hid hrs
  have HR := Lib.hid R
  clear hxs hx hm hm' z0 hgs hrs R
  go_enter Try.func7, Try.ntmps7
  go_wp2_with fail
  refine (LNew_any 1 w).mono ?_
  rintro e w1 (⟨hbad, -, -⟩ | ⟨-, x1, F1, rfl, L1, hF1, e1⟩)
  · exact absurd hbad (by decide)
  have HL1 := Lib.hid L1
  have HF1 := Lib.hid hF1
  have HP1 := Lib.hid (LPut_any F1 x1 1 [] [] ⟨#[97]⟩ ⟨#[120]⟩ w1 L1 (by decide) (Nat.le_refl _))
  have hpa : (⟨⟨#[97]⟩, ⟨#[120]⟩, false⟩ : Pr) = pA := rfl
  rw [hpa, a_key, a_young, a_tabs, errR_0] at HP1
  clear L1 hF1 hpa
  go_wp2_with fail
  refine HP1.out.mono ?_
  rintro _ w2 ⟨rfl, F2, hop2⟩
  obtain ⟨e2, hF2⟩ := hop2.keep e1 HF1.out
  have HL2 := Lib.hid hop2.at_
  clear hop2 HP1 HL1
  go_wp2_with fail
  refine (LYoung_any F2 x1 _ [] _ w2 HL2.out).mono ?_
  rintro _ _ ⟨rfl, rfl⟩
  have hl0 : ([] : List Pr).length = 0 := rfl
  rw [hl0]
  clear hl0
  go_wp2_with fail
  refine (LTables_any F2 x1 _ [] _ w2 HL2.out).mono ?_
  rintro _ w3 ⟨⟨v3, rfl, o3⟩, hb3⟩
  obtain ⟨A3, c3, rfl, -, -, -⟩ := own_rd o3
  have hl1 : [[pA]].length = 1 := rfl
  rw [hl1]
  have e3 := e2.trans hb3
  have HG1 := Lib.hid (LGet_any F2 x1 _ [] _ ⟨#[97]⟩ w3 (HL2.out.ext hb3))
  rw [a_see, show oV (some ⟨#[120]⟩) = ⟨#[120]⟩ from rfl, show oK (some ⟨#[120]⟩) = 0 from rfl, errR_0] at HG1
  clear o3 hl1 HL2 hF2
  go_wp2_with fail
  refine HG1.out.mono ?_
  rintro _ w4 ⟨rfl, hb4⟩
  have E4 := e3.trans hb4
  clear HG1 e3 hb4 hb3 e2 e1
  go_wp2_with fail
  refine (LNew_any lim0 w4).mono ?_
  rintro e w5 (⟨hbad, rfl, rfl⟩ | ⟨⟨hl1, hl60⟩, x, F, rfl, L5, hF5, e5⟩)
  · rcases hbad with h | h
    · go_wp2_with fail
      go_ret
      exact ⟨rfl, E4⟩
    · have h2 : ¬ lim0 < 1 := by omega
      go_wp2_with fail
      go_ret
      exact ⟨rfl, E4⟩
  obtain ⟨lim, rfl⟩ : ∃ lim : Nat, lim0 = (lim : Int) := ⟨lim0.toNat, by omega⟩
  have hl1 : 1 ≤ lim := by omega
  have hl60 : lim ≤ 60 := by omega
  have HL5 := Lib.hid L5.trim
  have HF5 := Lib.hid hF5
  clear L5 hF5
  go_wp2_with fail
  refine (SNew_any w5.heap.size w5 (Nat.le_refl _)).mono ?_
  rintro _ w6 ⟨rfl, S6, e6⟩
  obtain ⟨sb, hsb⟩ : ∃ sb, w5.heap.size = sb := ⟨_, rfl⟩
  have HX6 : Hid (XS w4 w6 x lim sb [] [] []) := Lib.hid (by
    have h5 := e5.size
    have h6 := e6.size
    have hlt := S6.bk.lt
    refine ⟨e5.trans e6, _, _, HL5.out.ext e6, by rw [← hsb]; exact S6, fun g hg => ⟨HF5.out g hg.1, by have := hg.2; omega⟩, fun g hg => ⟨by have := hg.2; omega, fun h => by simp [Value.ownBlock] at h⟩, by omega⟩)
  have HJ6 := Lib.hid (sj_zero hl1)
  rw [hsb]
  clear S6 e6 hsb HL5 HF5 e5
  go_wp2_with fail
  go_loopw [13, 14, 15] (fun y _ _ wr => ∃ (i : Nat) (Y : List Pr) (T : List (List Pr)) (es : List Pr), y = .int .i64 i ∧ i ≤ n ∧ i ≤ 60 ∧ Hid (XS w4 wr x lim sb Y T es) ∧ Hid (SJ i lim Y T es)) (fun y _ _ _ => n - (intOf y).toNat)
  case atStart => exact ⟨0, [], [], [], rfl, Nat.zero_le _, Nat.zero_le _, HX6, HJ6⟩
  case round =>
    clear HX6 HJ6
    obtain ⟨i, Y, T, es, rfl, hi, hi6, HXS1, HJ1⟩ := hrel
    have HMA := Lib.hid HXS1.out.many
    by_cases hc : i < n ∧ i < 60
    · obtain ⟨hc1, hc2⟩ := hc
      have hgj := List.getElem?_eq_getElem (l := l) (i := i) (by rw [HX.out]; exact hc1)
      obtain ⟨ad, rfl, hb0, d0, d1, d2⟩ := (HR.out.ext E4).getP hgj
      generalize l[i]'(by rw [HX.out]; exact hc1) = q at *
      obtain ⟨pk, pv, pg⟩ := q
      simp only at d0 d1 d2
      have HA := HLL.out
      have hlt : (ad.add (i * 3)).block < w4.heap.size := by rw [blk_add]; exact hb0
      have y0 := (HXS1.out.e.cell (p := ad.add (i * 3)) hlt).trans d0
      have y1 := (HXS1.out.e.cell (p := ⟨(ad.add (i * 3)).block, (ad.add (i * 3)).off + 1, none⟩) hlt).trans d1
      have y2 := (HXS1.out.e.cell (p := ⟨(ad.add (i * 3)).block, (ad.add (i * 3)).off + 2, none⟩) hlt).trans d2
      have D0 := Lib.hid d0
      have D1 := Lib.hid d1
      obtain ⟨p', hp'⟩ : ∃ p' : Pr, p' = ⟨pk, if pg = true then ⟨#[]⟩ else pv, pg⟩ := ⟨_, rfl⟩
      have HP' := Lib.hid hp'
      have hpg : p'.gone = true → p'.value.size = 0 := by
        rw [hp']
        intro h
        show ((if pg = true then (⟨#[]⟩ : ByteArray) else pv)).size = 0
        rw [if_pos h]; rfl
      have HPG := Lib.hid hpg
      have htot : totL T ≤ 1000 := by have := HJ1.out.tot; rw [totL_cons] at this; omega
      have HTOT := Lib.hid htot
      clear hgj d0 d1 d2 hp' hpg htot
      have hci : (i : Int) < 60 := by omega
      go_upto_if 84 with (fail)
      go_cut [14, 15] (fun u v wc => u = errR (putK Y p') ∧ v = errR (putK es p') ∧ Hid (XS w4 wc x lim sb (doY lim Y p') (doT lim Y T p') (storeL es p')))
      case first =>
        as_aux_lemma =>
        cases pg with
        | true =>
          have hp2 : p' = ⟨pk, ⟨#[]⟩, true⟩ := HP'.out
          subst hp2
          have HC := Lib.hid (XS_drop pk HXS1.out HTOT.out hl1)
          obtain ⟨kx, hkx⟩ : ∃ k, putK Y ⟨pk, ⟨#[]⟩, true⟩ = k := ⟨_, rfl⟩
          obtain ⟨ks, hks⟩ : ∃ k, putK es ⟨pk, ⟨#[]⟩, true⟩ = k := ⟨_, rfl⟩
          rw [hkx] at HC
          have HKX := Lib.hid hkx
          have HKS := Lib.hid hks
          clear hkx hks
          go_wp2_with fail
          refine HC.out.mono ?_
          rintro _ w7 ⟨rfl, X7⟩
          have z0 := (X7.e.cell (p := ad.add (i * 3)) hlt).trans D0.out
          have HC7 := Lib.hid (XS_sdrop pk X7)
          rw [HKS.out] at HC7
          clear X7 HC
          go_wp2_with fail
          refine HC7.out.mono ?_
          rintro _ w8 ⟨rfl, X8⟩
          have HX8 := Lib.hid X8
          clear X8
          go_wp2_with fail
          go_meet
          exact ⟨by rw [HKX.out], by rw [HKS.out], HX8⟩
        | false =>
          have hp2 : p' = ⟨pk, pv, false⟩ := HP'.out
          subst hp2
          have HC := Lib.hid (XS_put pk pv (HXS1.out.ext (Ext.refl wr).drew) HTOT.out hl1)
          have HE1 := HXS1.out.e
          obtain ⟨kx, hkx⟩ : ∃ k, putK Y ⟨pk, pv, false⟩ = k := ⟨_, rfl⟩
          obtain ⟨ks, hks⟩ : ∃ k, putK es ⟨pk, pv, false⟩ = k := ⟨_, rfl⟩
          rw [hkx] at HC
          have HKX := Lib.hid hkx
          have HKS := Lib.hid hks
          clear hkx hks
          go_wp2_with fail
          clear y0 y1 y2
          go_region_held3 (fun W => W.cell? (ad.add (i * 3)) = some (.string pk) ∧ W.cell? ⟨(ad.add (i * 3)).block, (ad.add (i * 3)).off + 1, none⟩ = some (.string pv)) (exact ⟨(Ext.cell (a := w4) (p := ad.add (i * 3)) (by (repeat (with_reducible first | exact Ext.refl _ | assumption | refine Ext.drew ?_ | refine Ext.drewN ?_ _ | refine Ext.alloc ?_ _ | refine Ext.trans ?_ (by with_reducible assumption)))) hlt).trans D0.out, (Ext.cell (a := w4) (p := ⟨(ad.add (i * 3)).block, (ad.add (i * 3)).off + 1, none⟩) (by (repeat (with_reducible first | exact Ext.refl _ | assumption | refine Ext.drew ?_ | refine Ext.drewN ?_ _ | refine Ext.alloc ?_ _ | refine Ext.trans ?_ (by with_reducible assumption)))) hlt).trans D1.out⟩) (first
            | (go_at_call 26; (with_reducible refine HC.out.mono ?_); rintro _ w7 ⟨rfl, X7⟩; have E7 := X7.e)
            | fail)
          all_goals
            have HC7 := Lib.hid (XS_sput pk pv (X7.ext (Ext.refl w7).drew))
            rw [HKS.out] at HC7
            clear X7
            go_wp2_with fail
            go_region_held3 (fun W => W.cell? (ad.add (i * 3)) = some (.string pk) ∧ W.cell? ⟨(ad.add (i * 3)).block, (ad.add (i * 3)).off + 1, none⟩ = some (.string pv)) (exact ⟨(Ext.cell (a := w4) (p := ad.add (i * 3)) (by (repeat (with_reducible first | exact Ext.refl _ | assumption | refine Ext.drew ?_ | refine Ext.drewN ?_ _ | refine Ext.alloc ?_ _ | refine Ext.trans ?_ (by with_reducible assumption)))) hlt).trans D0.out, (Ext.cell (a := w4) (p := ⟨(ad.add (i * 3)).block, (ad.add (i * 3)).off + 1, none⟩) (by (repeat (with_reducible first | exact Ext.refl _ | assumption | refine Ext.drew ?_ | refine Ext.drewN ?_ _ | refine Ext.alloc ?_ _ | refine Ext.trans ?_ (by with_reducible assumption)))) hlt).trans D1.out⟩) (first
              | (go_at_call 20; (with_reducible refine HC7.out.mono ?_); rintro _ w8 ⟨rfl, X8⟩; have E8 := X8.e; have HX8 := Lib.hid X8; clear X8)
              | fail)
            all_goals
              go_wp2_with fail
              go_meet
              exact ⟨by rw [HKX.out], by rw [HKS.out], HX8⟩
      case rest =>
      as_aux_lemma =>
      obtain ⟨rfl, rfl, HX5⟩ := hcut
      have HJ5 := Lib.hid (HJ1.out.put (by omega) HMA.out.2.1 HMA.out.2.2.1 HPG.out)
      rw [HJ1.out.keys (by omega) p']
      obtain ⟨k, hk⟩ : ∃ k, putK es p' = k := ⟨_, rfl⟩
      rw [hk]
      clear hk y0 y1 y2
      go_upto_region 20 with (fail)
      go_cut [127] from 123 to 127 (fun v wx => v = .bool false ∧ Hid (XS w4 wx x lim sb (doY lim Y p') (doT lim Y T p') (storeL es p')))
      case first =>
        as_aux_lemma =>
        cases hk : isOk k with
        | true =>
          go_quiet (fail)
          go_wp2_with fail
          go_meet
          exact ⟨rfl, HX5.out.ext (by (repeat (with_reducible first | exact Ext.refl _ | assumption | refine Ext.drew ?_ | refine Ext.drewN ?_ _ | refine Ext.alloc ?_ _ | refine Ext.trans ?_ (by with_reducible assumption))))⟩
        | false =>
          go_quiet (fail)
          go_wp2_with fail
          go_meet
          exact ⟨rfl, HX5.out.ext (by (repeat (with_reducible first | exact Ext.refl _ | assumption | refine Ext.drew ?_ | refine Ext.drewN ?_ _ | refine Ext.alloc ?_ _ | refine Ext.trans ?_ (by with_reducible assumption))))⟩
      case rest =>
      as_aux_lemma =>
      clear HX5
      obtain ⟨rfl, HX5⟩ := hcut
      by_cases him : i < m
      · have hmi : (i : Int) < (m : Int) := by omega
        have hgx := List.getElem?_eq_getElem (l := xs) (i := i) (by rw [HXS.out]; exact him)
        have hgx2 : (xs.map (Value.int .i64))[i]? = some (.int .i64 (xs[i]'(by rw [HXS.out]; exact him))) := by rw [List.getElem?_map, hgx]; rfl
        obtain ⟨ads, rfl, hsb1, hcs⟩ := (HRS.out.ext E4).at_ hgx2
        generalize xs[i]'(by rw [HXS.out]; exact him) = s at *
        have hsl : (ads.add i).block < w4.heap.size := by rw [blk_add]; exact hsb1
        have HCS := Lib.hid hcs
        have cs5 := (HX5.out.e.cell (p := ads.add i) hsl).trans hcs
        have HSLO := HSL.out
        clear hgx hgx2 hcs
        by_cases hs0 : s = 0
        · subst hs0
          have HC := Lib.hid (XS_flush HX5.out (by have := HJ5.out.tot; rw [totL_cons] at this; omega))
          obtain ⟨kf, hkf⟩ : ∃ k, flK (doY lim Y p') = k := ⟨_, rfl⟩
          rw [hkf] at HC
          clear hkf
          go_wp2_with fail
          refine HC.out.mono ?_
          rintro _ w9 ⟨rfl, X9⟩
          have HX9 := Lib.hid X9
          have HJ9 := Lib.hid (HJ5.out.fl HX5.out.many.2.1 hl1)
          clear X9 HC
          have cs9 := (HX9.out.e.cell (p := ads.add i) hsl).trans HCS.out
          obtain ⟨Y9, hY9⟩ : ∃ Y9, Y9 = flY (doY lim Y p') := ⟨_, rfl⟩
          obtain ⟨T9, hT9⟩ : ∃ T9, T9 = flT (doY lim Y p') (doT lim Y T p') := ⟨_, rfl⟩
          rw [← hY9, ← hT9] at HX9 HJ9
          have HM9 := Lib.hid HX9.out.many
          clear HX5 HJ5 hY9 hT9
          have hy8 := HM9.out.1
          have hylt := HJ9.out.young
          have hyi : ¬ (lim : Int) ≤ (Y9.length : Int) := by omega
          have hti : ¬ (8 : Int) < (T9.length : Int) := by omega
          have HYC := Lib.hid (XS_young HX9.out)
          have HTC := Lib.hid (XS_tables HX9.out)
          generalize Y9.length = yl at *
          generalize T9.length = tl at *
          clear hylt
          go_wp2_with fail
          refine HYC.out.mono ?_
          rintro _ _ ⟨rfl, rfl⟩
          go_wp2_with fail
          refine HTC.out.mono ?_
          rintro _ w8 ⟨⟨v8, rfl, o8⟩, hb8⟩
          obtain ⟨A8, c8, rfl, -, -, -⟩ := own_rd o8
          have HX8 := Lib.hid (HX9.out.ext hb8)
          clear o8
          go_wp2_with fail
          go_roundw
          case rel => exact ⟨i + 1, Y9, T9, storeL es p', by go_num, by omega, by omega, HX8, HJ9⟩
          case measure => simp [intOf]; omega
        · by_cases hs1 : s = 1
          · subst hs1
            have HC := Lib.hid (XS_merge HX5.out (by have := HJ5.out.tot; rw [totL_cons] at this; omega))
            obtain ⟨kf, hkf⟩ : ∃ k, mgK (doT lim Y T p') = k := ⟨_, rfl⟩
            rw [hkf] at HC
            clear hkf
            go_wp2_with fail
            refine HC.out.mono ?_
            rintro _ w9 ⟨rfl, X9⟩
            have HX9 := Lib.hid X9
            have HJ9 := Lib.hid (HJ5.out.mg HX5.out.many.2.1)
            clear X9 HC
            have cs9 := (HX9.out.e.cell (p := ads.add i) hsl).trans HCS.out
            obtain ⟨Y9, hY9⟩ : ∃ Y9, Y9 = doY lim Y p' := ⟨_, rfl⟩
            obtain ⟨T9, hT9⟩ : ∃ T9, T9 = mergeT (doT lim Y T p') := ⟨_, rfl⟩
            rw [← hY9, ← hT9] at HX9 HJ9
            have HM9 := Lib.hid HX9.out.many
            clear HX5 HJ5 hY9 hT9
            have hy8 := HM9.out.1
            have hylt := HJ9.out.young
            have hyi : ¬ (lim : Int) ≤ (Y9.length : Int) := by omega
            have hti : ¬ (8 : Int) < (T9.length : Int) := by omega
            have HYC := Lib.hid (XS_young HX9.out)
            have HTC := Lib.hid (XS_tables HX9.out)
            generalize Y9.length = yl at *
            generalize T9.length = tl at *
            clear hylt
            go_wp2_with fail
            refine HYC.out.mono ?_
            rintro _ _ ⟨rfl, rfl⟩
            go_wp2_with fail
            refine HTC.out.mono ?_
            rintro _ w8 ⟨⟨v8, rfl, o8⟩, hb8⟩
            obtain ⟨A8, c8, rfl, -, -, -⟩ := own_rd o8
            have HX8 := Lib.hid (HX9.out.ext hb8)
            clear o8
            go_wp2_with fail
            go_roundw
            case rel => exact ⟨i + 1, Y9, T9, storeL es p', by go_num, by omega, by omega, HX8, HJ9⟩
            case measure => simp [intOf]; omega
          · have hs0b : (s == 0) = false := beq_eq_false_iff_ne.2 hs0
            have hs1b : (s == 1) = false := beq_eq_false_iff_ne.2 hs1
            clear hs0 hs1
            obtain ⟨Y9, hY9⟩ : ∃ Y9, Y9 = doY lim Y p' := ⟨_, rfl⟩
            obtain ⟨T9, hT9⟩ : ∃ T9, T9 = doT lim Y T p' := ⟨_, rfl⟩
            rw [← hY9, ← hT9] at HX5 HJ5
            have HX9 := HX5
            have HJ9 := HJ5
            have HM9 := Lib.hid HX9.out.many
            clear HX5 HJ5 hY9 hT9
            have hy8 := HM9.out.1
            have hylt := HJ9.out.young
            have hyi : ¬ (lim : Int) ≤ (Y9.length : Int) := by omega
            have hti : ¬ (8 : Int) < (T9.length : Int) := by omega
            have HYC := Lib.hid (XS_young HX9.out)
            have HTC := Lib.hid (XS_tables HX9.out)
            generalize Y9.length = yl at *
            generalize T9.length = tl at *
            clear hylt
            go_wp2_with fail
            refine HYC.out.mono ?_
            rintro _ _ ⟨rfl, rfl⟩
            go_wp2_with fail
            refine HTC.out.mono ?_
            rintro _ w8 ⟨⟨v8, rfl, o8⟩, hb8⟩
            obtain ⟨A8, c8, rfl, -, -, -⟩ := own_rd o8
            have HX8 := Lib.hid (HX9.out.ext hb8)
            clear o8
            go_wp2_with fail
            go_roundw
            case rel => exact ⟨i + 1, Y9, T9, storeL es p', by go_num, by omega, by omega, HX8, HJ9⟩
            case measure => simp [intOf]; omega
      · have hmi : ¬ (i : Int) < (m : Int) := by omega
        obtain ⟨Y9, hY9⟩ : ∃ Y9, Y9 = doY lim Y p' := ⟨_, rfl⟩
        obtain ⟨T9, hT9⟩ : ∃ T9, T9 = doT lim Y T p' := ⟨_, rfl⟩
        rw [← hY9, ← hT9] at HX5 HJ5
        have HX9 := HX5
        have HJ9 := HJ5
        have HM9 := Lib.hid HX9.out.many
        clear HX5 HJ5 hY9 hT9
        have hy8 := HM9.out.1
        have hylt := HJ9.out.young
        have hyi : ¬ (lim : Int) ≤ (Y9.length : Int) := by omega
        have hti : ¬ (8 : Int) < (T9.length : Int) := by omega
        have HYC := Lib.hid (XS_young HX9.out)
        have HTC := Lib.hid (XS_tables HX9.out)
        generalize Y9.length = yl at *
        generalize T9.length = tl at *
        clear hylt
        go_wp2_with fail
        refine HYC.out.mono ?_
        rintro _ _ ⟨rfl, rfl⟩
        go_wp2_with fail
        refine HTC.out.mono ?_
        rintro _ w8 ⟨⟨v8, rfl, o8⟩, hb8⟩
        obtain ⟨A8, c8, rfl, -, -, -⟩ := own_rd o8
        have HX8 := Lib.hid (HX9.out.ext hb8)
        clear o8
        go_wp2_with fail
        go_roundw
        case rel => exact ⟨i + 1, Y9, T9, storeL es p', by go_num, by omega, by omega, HX8, HJ9⟩
        case measure => simp [intOf]; omega
    · have hci : ¬ ((i : Int) < (n : Int)) ∨ ((i : Int) < (n : Int) ∧ ¬ (i : Int) < 60) := by omega
      clear hc
      go_upto_region 12 with (fail)
      go_cut [77] from 70 to 77 (fun v wc => v = .bool false ∧ wr = wc)
      case first =>
        as_aux_lemma =>
        rcases hci with h | ⟨h, h2⟩
        · go_wp2_with fail
          go_meet
          exact ⟨rfl, rfl⟩
        · go_wp2_with fail
          go_meet
          exact ⟨rfl, rfl⟩
      case rest =>
      as_aux_lemma =>
      obtain ⟨rfl, rfl⟩ := hcut
      have HAL := Lib.hid (XS_sall HXS1.out)
      obtain ⟨ne, hne⟩ : ∃ k, es.length = k := ⟨_, rfl⟩
      rw [hne] at HAL
      have HNE := Lib.hid hne
      have hne60 : ne ≤ 60 := by have := HMA.out.2.2.2.1; omega
      have HJE := HJ1
      clear hne
      go_wp2_with fail
      refine HAL.out.mono ?_
      rintro _ w6 ⟨⟨v6, rfl, o6⟩, hb6⟩
      obtain ⟨A6, c6, rfl, hc6, R6, -⟩ := own_rd o6
      have HX6 := Lib.hid (HXS1.out.ext hb6)
      have HR6 := Lib.hid R6
      have E6 := E4.trans HX6.out.e
      have H0 : Hid (w6.ownsRow w6.heap.size 28 3 (.slice none 0 0) (ngL (es.take 0)).length ((ngL (es.take 0)).flatMap Pr.cells)) := own_nil _ _ _ _
      have hl6 := R6.2.1
      unfold maxLen at hc6
      clear o6 R6 HAL HXS1
      go_wp2_with fail
      go_loopw [16, 18, 19, 20, 21, 22] (fun lv y _ _ _ _ wr => ∃ j : Nat, y = .int .i64 j ∧ j ≤ ne ∧ Ext w6 wr ∧ Hid (wr.ownsRow w6.heap.size 28 3 lv (ngL (es.take j)).length ((ngL (es.take j)).flatMap Pr.cells))) (fun _ y _ _ _ _ _ => ne - (intOf y).toNat)
      case atStart => exact ⟨0, rfl, Nat.zero_le _, Ext.refl _, H0⟩
      case round =>
        obtain ⟨j, rfl, hj, hbw, hown⟩ := hrel
        by_cases hcj : j < ne
        · obtain ⟨q, hq⟩ : ∃ q, es[j]? = some q := ⟨_, List.getElem?_eq_getElem (by rw [HNE.out]; exact hcj)⟩
          obtain ⟨ad, rfl, hbl, d0, d1, d2⟩ := HR6.out.getP hq
          have hnx : ngL (es.take (j + 1)) = ngL (es.take j) ++ if q.gone = true then [] else [q] := by rw [take_step hq, ngL_snoc]
          obtain ⟨pk, pv, pg⟩ := q
          simp only at d0 d1 d2
          have hlt : (ad.add (j * 3)).block < w6.heap.size := by rw [blk_add]; exact hbl
          have y0 := (hbw.cell (p := ad.add (j * 3)) hlt).trans d0
          have y1 := (hbw.cell (p := ⟨(ad.add (j * 3)).block, (ad.add (j * 3)).off + 1, none⟩) hlt).trans d1
          have y2 := (hbw.cell (p := ⟨(ad.add (j * 3)).block, (ad.add (j * 3)).off + 2, none⟩) hlt).trans d2
          have D0 := Lib.hid d0
          have HNX := Lib.hid hnx
          clear hnx d0 d1 d2 hq
          cases pg with
          | true =>
            have X7 := HX6.out.ext hbw
            have E7 := hbw
            have O7 : Hid (wr.ownsRow w6.heap.size 28 3 u16 (ngL (es.take (j + 1))).length ((ngL (es.take (j + 1))).flatMap Pr.cells)) := by
              show World.ownsRow _ _ _ _ _ _ _
              rw [HNX.out, if_pos rfl, List.append_nil]
              exact hown.out
            have HGC := Lib.hid (XS_get pk X7)
            have hgs := HJE.out.get pk
            obtain ⟨gv, hgv⟩ : ∃ v, oV (seeL Y T pk) = v := ⟨_, rfl⟩
            obtain ⟨gk, hgk⟩ : ∃ v, oK (seeL Y T pk) = v := ⟨_, rfl⟩
            rw [hgv, hgk] at HGC hgs
            have HX7 := Lib.hid X7
            have HGS := Lib.hid hgs
            clear X7 hgv hgk hgs
            go_wp2_with fail
            refine HGC.out.mono ?_
            rintro _ w8 ⟨rfl, hb8⟩
            have E8 := E7.trans hb8
            have HSC := Lib.hid (XS_sget pk (HX7.out.ext hb8))
            rw [HGS.out.1, HGS.out.2] at HSC
            have g0 := (E8.cell (p := ad.add (j * 3)) hlt).trans D0.out
            go_wp2_with fail
            refine HSC.out.mono ?_
            rintro _ w10 ⟨rfl, hb10⟩
            have E10 := E8.trans hb10
            go_upto_region 37 with (fail)
            go_cut [214] from 205 to 214 (fun v wc => v = .bool false ∧ Ext w10 wc)
            case first =>
              as_aux_lemma =>
              cases hk : isOk gk with
              | true =>
                go_quiet (fail)
                go_wp2_with fail
                go_meet
                exact ⟨rfl, by (repeat (with_reducible first | exact Ext.refl _ | assumption | refine Ext.drew ?_ | refine Ext.drewN ?_ _ | refine Ext.alloc ?_ _ | refine Ext.trans ?_ (by with_reducible assumption)))⟩
              | false =>
                go_quiet (fail)
                go_wp2_with fail
                go_meet
                exact ⟨rfl, by (repeat (with_reducible first | exact Ext.refl _ | assumption | refine Ext.drew ?_ | refine Ext.drewN ?_ _ | refine Ext.alloc ?_ _ | refine Ext.trans ?_ (by with_reducible assumption)))⟩
            case rest =>
            as_aux_lemma =>
            obtain ⟨rfl, hb11⟩ := hcut
            have E11 := E10.trans hb11
            have OF := Lib.hid (own_ext (own_ext (own_ext O7.out hb8) hb10) hb11)
            go_wp2_with fail
            go_roundw
            case rel => exact ⟨j + 1, by go_num, by omega, E11, OF⟩
            case measure => simp [intOf]; omega
          | false =>
            obtain ⟨kk, hkk⟩ : ∃ k, (ngL (es.take j)).length = k := ⟨_, rfl⟩
            have hk60 : kk ≤ 60 := by
              have h1 := ngL_len (es.take j)
              have h2 : (es.take j).length ≤ j := by rw [List.length_take]; omega
              omega
            have ow := hown.out
            rw [hkk] at ow
            have HKK := Lib.hid hkk
            have e3 : Ext wr (wr.alloc (.cells #[.string pk, .string pv, .bool false] 28)) := (Ext.refl _).alloc _
            have O3 := Lib.hid (own_ext ow e3)
            have e3w := hbw.trans e3
            have hb3 := e3w.size
            obtain ⟨i0, hi0, hz0, hzs, hzb⟩ := info_parts info_pair
            clear ow hkk
            go_wp2_with (at_builtin; go_loud (refine wpList_append_own _ rfl _ _ 22 rfl w6.heap.size 28 i0 _ 3 40 Try.underlying22 hi0 hz0 hzs hzb rfl (by omega) u16 kk _ rfl O3.out ⟨wr.heap.size, 0, none⟩ 1 1 [.string pk, .string pv, .bool false] (by rfl) rfl (news_new wr _ _ _ rfl) (by intro u hu; simp at hu; rcases hu with rfl | rfl | rfl <;> rfl) (by unfold maxLen; omega) (by omega) hb3 ?_); intro v7 w7 own7 hg7 hH7; clear hH7; have E7 := own_grown O3.out hg7 w6 (Nat.le_refl _) e3w; have h0 := (E7.cell (p := ad.add (j * 3)) hlt).trans D0.out)
            have X7 := HX6.out.ext E7
            have O7 : Hid (w7.ownsRow w6.heap.size 28 3 v7 (ngL (es.take (j + 1))).length ((ngL (es.take (j + 1))).flatMap Pr.cells)) := by
              show World.ownsRow _ _ _ _ _ _ _
              rw [HNX.out, if_neg (by decide), List.length_append, HKK.out, List.flatMap_append]
              exact own7
            clear own7
            have HGC := Lib.hid (XS_get pk X7)
            have hgs := HJE.out.get pk
            obtain ⟨gv, hgv⟩ : ∃ v, oV (seeL Y T pk) = v := ⟨_, rfl⟩
            obtain ⟨gk, hgk⟩ : ∃ v, oK (seeL Y T pk) = v := ⟨_, rfl⟩
            rw [hgv, hgk] at HGC hgs
            have HX7 := Lib.hid X7
            have HGS := Lib.hid hgs
            clear X7 hgv hgk hgs
            go_wp2_with fail
            refine HGC.out.mono ?_
            rintro _ w8 ⟨rfl, hb8⟩
            have E8 := E7.trans hb8
            have HSC := Lib.hid (XS_sget pk (HX7.out.ext hb8))
            rw [HGS.out.1, HGS.out.2] at HSC
            have g0 := (E8.cell (p := ad.add (j * 3)) hlt).trans D0.out
            go_wp2_with fail
            refine HSC.out.mono ?_
            rintro _ w10 ⟨rfl, hb10⟩
            have E10 := E8.trans hb10
            go_upto_region 37 with (fail)
            go_cut [214] from 205 to 214 (fun v wc => v = .bool false ∧ Ext w10 wc)
            case first =>
              as_aux_lemma =>
              cases hk : isOk gk with
              | true =>
                go_quiet (fail)
                go_wp2_with fail
                go_meet
                exact ⟨rfl, by (repeat (with_reducible first | exact Ext.refl _ | assumption | refine Ext.drew ?_ | refine Ext.drewN ?_ _ | refine Ext.alloc ?_ _ | refine Ext.trans ?_ (by with_reducible assumption)))⟩
              | false =>
                go_quiet (fail)
                go_wp2_with fail
                go_meet
                exact ⟨rfl, by (repeat (with_reducible first | exact Ext.refl _ | assumption | refine Ext.drew ?_ | refine Ext.drewN ?_ _ | refine Ext.alloc ?_ _ | refine Ext.trans ?_ (by with_reducible assumption)))⟩
            case rest =>
            as_aux_lemma =>
            obtain ⟨rfl, hb11⟩ := hcut
            have E11 := E10.trans hb11
            have OF := Lib.hid (own_ext (own_ext (own_ext O7.out hb8) hb10) hb11)
            go_wp2_with fail
            go_roundw
            case rel => exact ⟨j + 1, by go_num, by omega, E11, OF⟩
            case measure => simp [intOf]; omega
        · obtain rfl : j = ne := by omega
          have HALL := Lib.hid (HJE.out.all HMA.out.2.1 HMA.out.2.2.1)
          have htot : totL (Y :: T) ≤ 1000 := by have := HJE.out.tot; omega
          have HC := Lib.hid (XS_all (HX6.out.ext hbw) htot)
          rw [HALL.out] at HC
          have ow := hown.out
          rw [List.take_of_length_le (by rw [HNE.out]; exact Nat.le_refl _)] at ow
          have hk60 := ngL_len es
          rw [HNE.out] at hk60
          generalize ngL es = L at *
          obtain ⟨kk, hkk⟩ : ∃ k, L.length = k := ⟨_, rfl⟩
          rw [hkk] at HC ow hk60
          obtain ⟨A9, c9, rfl, hc9, R9, -⟩ := own_rd ow
          have HR9 := Lib.hid R9
          clear ow hown R9 hkk htot HALL
          go_wp2_with fail
          refine HC.out.mono ?_
          rintro _ w8 ⟨⟨v8, rfl, o8⟩, hb8⟩
          obtain ⟨A8, c8, rfl, hc8, R8, -⟩ := own_rd o8
          have HPC := Lib.hid (Pairs_same A8 A9 kk c8 c9 L w8 R8 (HR9.out.ext hb8) (by omega))
          clear o8 R8
          go_wp2_with fail
          refine HPC.out.mono ?_
          rintro _ w11 ⟨rfl, hb11⟩
          go_wp2_with fail
          go_ret
          exact ⟨rfl, ((E6.trans hbw).trans hb8).trans hb11⟩
end Go.Proofs.Ytblojobgchkipaa.lsmSame

