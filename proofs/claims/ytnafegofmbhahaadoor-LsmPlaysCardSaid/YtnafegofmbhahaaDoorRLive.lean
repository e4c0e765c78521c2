/- the references' lists laid over one another. -/
import Derived.Test.YtnafegofmbhahaaDoorRStore2
import Derived.Test.YtnafegofmbhahaaDoorLsm7
namespace Go.Proofs.YtnafegofmbhahaaDoor
open Go.RowKit Go.WideShapes
set_option linter.unusedVariables false
attribute [local go_sem ↓] Go.wp_at_zero Go.wp_at_succ

set_option maxRecDepth 100000 in
set_option maxHeartbeats 2000000 in
theorem RLive_any (A : Option Addr) (n c : Nat) (vs : List Value) (T : List (List Pr)) (w : World) (hr : Rd w 1 A n c vs) (hm : c ≤ maxLen) (hl : RdLs w vs T) (htot : totL T ≤ 1000) :
    Calls Tryd.prog 93 #[.slice A n c] w fun e w' => (∃ v', e = .returned v' ∧ w'.ownsRow w.heap.size 25 3 v' (liveL T).length ((liveL T).flatMap Pr.cells)) ∧ Ext w w' := by
  have hvl : vs.length = n := by have := hr.1; omega
  have hTl : T.length = n := hl.1.symm.trans hvl
  have HT := Lib.hid hTl
  have HV := Lib.hid hvl
  have HL := Lib.hid hl
  have HTOT := Lib.hid htot
  have hnc := hr.2.1
  have H0 : Hid (w.ownsRow w.heap.size 25 3 (.slice none 0 0) (outL T 0 0).length ((outL T 0 0).flatMap Pr.cells)) := own_nil _ _ _ _
  clear hl hvl hTl htot
  unfold maxLen at hm
  go_enter Tryd.func93, Tryd.ntmps93
  go_wp2_with fail
  go_loopw [3, 4, 5] (fun o x _ wr => ∃ i : Nat, x = .int .i64 i ∧ i ≤ n ∧ Ext w wr ∧ Hid (wr.ownsRow w.heap.size 25 3 o (outL T i 0).length ((outL T i 0).flatMap Pr.cells))) (fun _ x _ _ => n - (intOf x).toNat)
  case atStart => exact ⟨0, rfl, Nat.zero_le _, Ext.refl _, H0⟩
  case round =>
    obtain ⟨i, rfl, hi, hbw, hown⟩ := hrel
    by_cases hc : i < n
    · obtain ⟨ev, hev⟩ : ∃ v, vs[i]? = some v := ⟨_, List.getElem?_eq_getElem (by rw [HV.out]; exact hc)⟩
      obtain ⟨es, hes⟩ : ∃ es, T[i]? = some es := ⟨_, List.getElem?_eq_getElem (by rw [HT.out]; exact hc)⟩
      obtain ⟨ad, rfl, hb, c0⟩ := hr.at_ hev
      obtain ⟨A1, c1, rfl, hc1, hr1⟩ := HL.out.2 i _ es hev hes
      obtain ⟨m, hm1⟩ : ∃ m, es.length = m := ⟨_, rfl⟩
      have HES := Lib.hid hes
      have HM := Lib.hid hm1
      have hm3 : m ≤ 1000 := by
        have h1 := take_tot hes
        have h2 := HTOT.out
        omega
      have hmc := hr1.2.1
      rw [hm1] at c0 hr1 hmc
      have HR1 := Lib.hid hr1
      have hlt : (ad.add i).block < w.heap.size := by rw [blk_add]; exact hb
      have C0 := Lib.hid c0
      unfold maxLen at hc1
      clear hes hm1 hev hr1 c0
      go_wp2_with fail
      go_loopw [3, 5] (fun o x wr => ∃ j : Nat, x = .int .i64 j ∧ j ≤ m ∧ Ext w wr ∧ Hid (wr.ownsRow w.heap.size 25 3 o (outL T i j).length ((outL T i j).flatMap Pr.cells))) (fun _ x _ => m - (intOf x).toNat)
      case atStart => exact ⟨0, rfl, Nat.zero_le _, hbw, hown⟩
      case round =>
        obtain ⟨j, rfl, hj, hbw2, hown2⟩ := hrel
        have x0 := (hbw2.cell (p := ad.add i) hlt).trans C0.out
        by_cases hc2 : j < m
        · obtain ⟨p, hp⟩ : ∃ p, es[j]? = some p := ⟨_, List.getElem?_eq_getElem (by rw [HM.out]; exact hc2)⟩
          obtain ⟨ad1, rfl, hb1, y0, y1, y2⟩ := (HR1.out.ext hbw2).getP hp
          have hst := outL_step HES.out hp
          have hol := outL_len (T := T) (i := i) (j := j)
          have hasc := outL_asc T i j
          have htt := take_tot HES.out
          rw [HM.out] at htt
          have htt2 := HTOT.out
          generalize outL T i j = O at *
          obtain ⟨k, hk⟩ : ∃ k, O.length = k := ⟨_, rfl⟩
          rw [hk] at hol
          have hk1 : k ≤ 1000 := by omega
          have ow := hown2.out
          rw [hk] at ow
          obtain ⟨A2, c2, rfl, hc3, hr2, -⟩ := own_rd ow
          obtain ⟨pk, pv, pg⟩ := p
          simp only at y0 y1 y2
          have HST := Lib.hid hst
          have HK := Lib.hid hk
          have HOW := Lib.hid ow
          have HF := Lib.hid (RSFind_any A2 k c2 O pk wr hr2 hc3 hasc)
          have HW := Lib.hid (RSWith_any A2 k c2 O ⟨pk, pv, pg⟩ wr hr2 hc3 hasc (by omega))
          have hbs := hbw2.size
          cases hb9 : hasB O pk with
          | true =>
            have hrf : rfK O pk = (lowN O pk : Nat) := if_pos hb9
            rw [hrf] at HF
            have HN : Hid (wr.ownsRow w.heap.size 25 3 (.slice A2 k c2) (outL T i (j + 1)).length ((outL T i (j + 1)).flatMap Pr.cells)) := by
              show World.ownsRow _ _ _ _ _ _ _
              rw [HST.out, show addL O ⟨pk, pv, pg⟩ = O from if_pos hb9, HK.out]
              exact HOW.out
            generalize lowN O pk = lo at *
            clear hst hk hasc ow hown2 hr2 htt htt2 hol hp hrf hb9 HW
            go_wp2_with fail
            refine HF.out.mono ?_
            rintro _ _ ⟨rfl, rfl⟩
            go_wp2_with fail
            go_roundw
            case rel => exact ⟨j + 1, by go_num, by omega, hbw2, HN⟩
            case measure => simp [intOf]; omega
          | false =>
            have hrf : rfK O pk = -1 := if_neg (by rw [hb9]; decide)
            rw [hrf] at HF
            have hadd : outL T i (j + 1) = putL O ⟨pk, pv, pg⟩ := by rw [HST.out, addL_put hb9]
            have HADD := Lib.hid hadd
            clear hst hk hasc ow hown2 hr2 htt htt2 hol hp hrf hb9 hadd
            go_wp2_with fail
            refine HF.out.mono ?_
            rintro _ _ ⟨rfl, rfl⟩
            go_wp2_with fail
            refine HW.out.mono ?_
            rintro _ w6 ⟨⟨v6, rfl, o6⟩, hb6⟩
            have HN : Hid (w6.ownsRow w.heap.size 25 3 v6 (outL T i (j + 1)).length ((outL T i (j + 1)).flatMap Pr.cells)) := by
              show World.ownsRow _ _ _ _ _ _ _
              rw [HADD.out]
              exact own_lower o6 hbs
            have e6 := hbw2.trans hb6
            clear o6
            go_wp2_with fail
            go_roundw
            case rel => exact ⟨j + 1, by go_num, by omega, e6, HN⟩
            case measure => simp [intOf]; omega
        · obtain rfl : j = m := by omega
          have HN := Lib.hid hown2.out
          rw [← HM.out, outL_end HES.out] at HN
          clear hown2 hc2
          go_wp2_with fail
          go_roundw
          case rel => exact ⟨i + 1, by go_num, by omega, hbw2, HN⟩
          case measure => simp [intOf]; omega
    · obtain rfl : i = n := by omega
      have hOl := outL_all (T := T)
      have hol := outL_len (T := T) (i := T.length) (j := 0)
      rw [HT.out] at hOl hol
      have h3 : (T.take i).flatten.length ≤ totL T := by
        rw [List.take_of_length_le (by rw [HT.out]; exact Nat.le_refl _), List.length_flatten]; exact Nat.le_refl _
      have h4 := HTOT.out
      have HOL := Lib.hid hOl
      generalize outL T i 0 = O at *
      obtain ⟨k, hk⟩ : ∃ k, O.length = k := ⟨_, rfl⟩
      rw [hk] at hol hown
      have hk1 : k ≤ 1000 := by omega
      have HK := Lib.hid hk
      obtain ⟨A2, c2, rfl, hc3, hr2, -⟩ := own_rd hown.out
      have HR2 := Lib.hid hr2
      have hkc := hr2.2.1
      have H0 : Hid (wr.ownsRow w.heap.size 25 3 (.slice none 0 0) (ngL (O.take 0)).length ((ngL (O.take 0)).flatMap Pr.cells)) := own_nil _ _ _ _
      obtain ⟨wq, hwq⟩ : ∃ wq, wq = wr := ⟨_, rfl⟩
      rw [← hwq] at HR2
      have ewq : Ext w wq := by rw [hwq]; exact hbw
      have eqr : Ext wq wr := by rw [hwq]; exact Ext.refl _
      obtain ⟨base, hbase⟩ : ∃ b, wq.heap.size = b := ⟨_, rfl⟩
      have H1 : Hid (wr.ownsRow base 25 3 (.slice none 0 0) (ngL (O.take 0)).length ((ngL (O.take 0)).flatMap Pr.cells)) := own_nil _ _ _ _
      unfold maxLen at hc3
      clear hown hOl hol h3 h4 hk hr2 H0 hwq
      go_wp2_with fail
      go_loopw [6, 7] (fun o y wr => ∃ j : Nat, y = .int .i64 j ∧ j ≤ k ∧ Ext wq wr ∧ Hid (wr.ownsRow base 25 3 o (ngL (O.take j)).length ((ngL (O.take j)).flatMap Pr.cells))) (fun _ y _ => k - (intOf y).toNat)
      case atStart => exact ⟨0, rfl, Nat.zero_le _, eqr, H1⟩
      case round =>
        obtain ⟨j, rfl, hj, hbw3, hown⟩ := hrel
        by_cases hcj : j < k
        · obtain ⟨q, hq⟩ : ∃ q, O[j]? = some q := ⟨_, List.getElem?_eq_getElem (by rw [HK.out]; exact hcj)⟩
          obtain ⟨ad, rfl, hbl, y0, y1, y2⟩ := (HR2.out.ext hbw3).getP hq
          have hnx : ngL (O.take (j + 1)) = ngL (O.take j) ++ if q.gone = true then [] else [q] := by rw [take_step hq, ngL_snoc]
          obtain ⟨pk, pv, pg⟩ := q
          simp only at y0 y1 y2
          have HNX := Lib.hid hnx
          clear hnx hq
          cases pg with
          | true =>
            have O7 : Hid (wr.ownsRow base 25 3 u6 (ngL (O.take (j + 1))).length ((ngL (O.take (j + 1))).flatMap Pr.cells)) := by
              show World.ownsRow _ _ _ _ _ _ _
              rw [HNX.out, if_pos rfl, List.append_nil]
              exact hown.out
            go_wp2_with fail
            go_roundw
            case rel => exact ⟨j + 1, by go_num, by omega, hbw3, O7⟩
            case measure => simp [intOf]; omega
          | false =>
            obtain ⟨kk, hkk⟩ : ∃ k, (ngL (O.take j)).length = k := ⟨_, rfl⟩
            have hk60 : kk ≤ 1000 := by
              have h1 := ngL_len (O.take j)
              have h2 : (O.take j).length ≤ j := by rw [List.length_take]; omega
              omega
            have ow := hown.out
            rw [hkk] at ow
            have HKK := Lib.hid hkk
            have e3 : Ext wr (wr.alloc (.cells #[.string pk, .string pv, .bool false] 25)) := (Ext.refl _).alloc _
            have O3 := Lib.hid (own_ext ow e3)
            have e3w := hbw3.trans e3
            have hb3 : base ≤ (wr.alloc (.cells #[.string pk, .string pv, .bool false] 25)).heap.size := by rw [← hbase]; exact e3w.size
            obtain ⟨i0, hi0, hz0, hzs, hzb⟩ := info_parts info_pair
            clear ow hkk
            go_wp2_with (at_builtin; go_loud (refine wpList_append_own _ rfl _ _ 22 rfl base 25 i0 _ 3 40 Tryd.underlying22 hi0 hz0 hzs hzb rfl (by omega) u6 kk _ rfl O3.out ⟨wr.heap.size, 0, none⟩ 1 1 [.string pk, .string pv, .bool false] (by rfl) rfl (news_new wr _ _ _ rfl) (by intro u hu; simp at hu; rcases hu with rfl | rfl | rfl <;> rfl) (by unfold maxLen; omega) (by omega) hb3 ?_); intro v7 w7 own7 hg7 hH7; clear hH7; have E7 := own_grown O3.out hg7 wq (Nat.le_of_eq hbase) e3w)
            have O7 : Hid (w7.ownsRow base 25 3 v7 (ngL (O.take (j + 1))).length ((ngL (O.take (j + 1))).flatMap Pr.cells)) := by
              show World.ownsRow _ _ _ _ _ _ _
              rw [HNX.out, if_neg (fun h => Bool.noConfusion h), List.length_append, HKK.out, List.flatMap_append]
              exact own7
            clear own7
            go_roundw
            case rel => exact ⟨j + 1, by go_num, by omega, E7, O7⟩
            case measure => simp [intOf]; omega
        · obtain rfl : j = k := by omega
          have ow := hown.out
          rw [List.take_of_length_le (by rw [HK.out]; exact Nat.le_refl _), HOL.out] at ow
          have HO := Lib.hid (own_lower ow (by rw [← hbase]; exact ewq.size))
          clear ow hown
          go_wp2_with fail
          go_ret
          exact ⟨⟨_, rfl, HO.out⟩, ewq.trans hbw3⟩
end Go.Proofs.YtnafegofmbhahaaDoor
