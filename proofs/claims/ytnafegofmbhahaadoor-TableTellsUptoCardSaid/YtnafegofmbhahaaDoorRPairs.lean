/- the references' fault of pairs. -/
import Derived.Test.YtnafegofmbhahaaDoorRStore2
import Derived.Test.YtnafegofmbhahaaDoorLast
import Derived.BigQuiet
import Derived.Deep.DeepCutAuto
import Derived.Deep.CutRange
namespace Go.Proofs.YtnafegofmbhahaaDoor
open Go.RowKit
set_option linter.unusedVariables false
attribute [local go_sem ↓] Go.wp_at_zero Go.wp_at_succ

theorem ord_not (a b : ByteArray) : (!(kLt b a)) = decide (ordAB a b) := by
  cases h : kLt b a with
  | true =>
    refine (decide_eq_false ?_).symm
    rintro (rfl | h2)
    · rw [kLt_irrefl] at h; cases h
    · rw [kLt_asymm h2] at h; cases h
  | false =>
    refine (decide_eq_true ?_).symm
    rcases kLt_total h with rfl | h2
    · exact .inl rfl
    · exact .inr h2

set_option maxRecDepth 100000 in
set_option maxHeartbeats 2000000 in
theorem RSPairs_any (A : Option Addr) (n c : Nat) (es : List Pr) (w : World) (hr : Rd w 3 A n c (es.flatMap Pr.cells)) (hm : c ≤ maxLen) :
    Calls Tryd.prog 19 #[.slice A n c] w fun e w' => e = .returned (.int .i64 (tblK es)) ∧ Ext w w' := by
  have hms : c ≤ 9223372036854775807 := by unfold maxLen at hm; omega
  have hl := hr.2.1
  have HX := Lib.hid hr.lenP
  obtain ⟨k, HK⟩ : ∃ x, Hid (tblK es = x) := ⟨_, rfl⟩
  rw [HK.out]
  have HK0 : Hid (tabGo (es.take 0) (es.drop 0) = k) := HK
  go_enter Tryd.func19, Tryd.ntmps19
  go_wp2_with fail
  go_loopw [3, 4] (fun x _ wr => ∃ j : Nat, x = .int .i64 j ∧ j ≤ n ∧ Ext w wr ∧ Hid (tabGo (es.take j) (es.drop j) = k)) (fun x _ _ => n - (intOf x).toNat)
  case atStart => exact ⟨0, rfl, Nat.zero_le _, Ext.refl _, HK0⟩
  case round =>
    obtain ⟨j, rfl, hj, hbw, hgo⟩ := hrel
    by_cases hc : j < n
    · obtain ⟨p, hgj⟩ : ∃ p, es[j]? = some p := ⟨_, List.getElem?_eq_getElem (by rw [HX.out]; exact hc)⟩
      obtain ⟨ad, rfl, hb, c0, c1, c2⟩ := (hr.ext hbw).getP hgj
      have hst := tabGo_step hgj
      rw [hgo.out] at hst
      have HST := Lib.hid hst
      obtain ⟨pk, pv, pg⟩ := p
      simp only at c0 c1 c2
      clear hgj hst
      go_wp2_with fail
      refine (RSKey_any pk _).mono ?_
      rintro _ _ ⟨rfl, rfl⟩
      by_cases hk0 : keyK pk = 0
      · have HKK := Lib.hid hk0
        rw [hk0]
        clear hk0
        by_cases h2 : 200 < pv.size
        · have hvi : (200 : Int) < (pv.size : Int) := by omega
          have hk : k = 4 := by
            have h3 := HST.out
            have h4 : tabK (es.take j) ⟨pk, pv, pg⟩ = 4 := by unfold tabK; rw [if_neg (not_not_intro HKK.out), if_pos h2]
            rw [h4, if_pos (by decide)] at h3
            exact h3
          subst hk
          go_wp2_with fail
          go_ret
          exact ⟨rfl, hbw⟩
        · have hvi : ¬ (200 : Int) < (pv.size : Int) := by omega
          by_cases h3 : pg = true ∧ pv.size ≠ 0
          · obtain ⟨rfl, h4⟩ := h3
            obtain ⟨q1, q2⟩ := str_someP (s := pv) (by omega)
            have hk : k = 3 := by
              have h3 := HST.out
              have h5 : tabK (es.take j) ⟨pk, pv, true⟩ = 3 := by unfold tabK; rw [if_neg (not_not_intro HKK.out), if_neg h2, if_pos ⟨rfl, h4⟩]
              rw [h5, if_pos (by decide)] at h3
              exact h3
            subst hk
            go_wp2_with fail
            go_ret
            exact ⟨rfl, hbw⟩
          · obtain ⟨ob, HOB⟩ : ∃ x, Hid (ordT (es.take j) ⟨pk, pv, pg⟩ = x) := ⟨_, rfl⟩
            have hpk0 : tabK (es.take j) ⟨pk, pv, pg⟩ = if ob = true then 7 else 0 := by
              unfold tabK
              rw [if_neg (not_not_intro HKK.out), if_neg h2, if_neg h3, HOB.out]
            have HPK := Lib.hid hpk0
            clear hpk0 h2
            go_upto_region 9 with (fail)
            go_cut [39] from 27 to 39 (fun v wc => v = .bool false ∧ wr = wc)
            case first =>
              as_aux_lemma =>
              cases pg with
              | true =>
                have hz : pv.size = 0 := Decidable.byContradiction fun h => h3 ⟨rfl, h⟩
                obtain rfl := str_noneP hz
                clear h3 hz
                go_wp2_with fail
                go_meet
                exact ⟨rfl, rfl⟩
              | false =>
                clear h3
                go_wp2_with fail
                go_meet
                exact ⟨rfl, rfl⟩
            case rest =>
            as_aux_lemma =>
            obtain ⟨rfl, rfl⟩ := hcut
            clear h3
            go_upto_region 11 with (fail)
            go_cut [55] from 40 to 55 (fun v wc => v = .bool ob ∧ Ext wr wc)
            case first =>
              as_aux_lemma =>
              by_cases hj0 : j = 0
              · subst hj0
                have hob : ob = false := by rw [← HOB.out]; rfl
                subst hob
                clear HOB
                go_quiet (fail)
                go_wp2_with fail
                go_meet
                exact ⟨rfl, by (repeat (with_reducible first | exact Ext.refl _ | assumption | refine Ext.drew ?_ | refine Ext.drewN ?_ _ | refine Ext.alloc ?_ _ | refine Ext.trans ?_ (by with_reducible assumption)))⟩
              · obtain ⟨q, hgm⟩ : ∃ q, es[j - 1]? = some q := ⟨_, List.getElem?_eq_getElem (by rw [HX.out]; omega)⟩
                obtain ⟨ad', e, hb', y0, -, -⟩ := (hr.ext hbw).getP hgm
                obtain rfl : ad = ad' := by injection e
                obtain ⟨qk, qv, qg⟩ := q
                simp only at y0
                have hob : ob = decide (ordAB pk qk) := by
                  have h5 := ordT_prev (p := ⟨pk, pv, pg⟩) hgm
                  rw [Nat.sub_add_cancel (by omega), HOB.out] at h5
                  rw [h5, ← ord_not]
                obtain ⟨i, hi⟩ : ∃ i, j - 1 = i := ⟨_, rfl⟩
                rw [hi] at y0
                have k1 : IntKind.i64.wrap ((j : Int) - 1) = (i : Int) := by rw [IntWalk.i64_in _ (by omega)]; omega
                have k5 : (i : Int) < (n : Int) := by omega
                have k6 : 0 < (j : Int) := by omega
                have k7 : i < n := by omega
                have k8 : 0 < j := by omega
                clear HOB hgm e HST HPK hgo hj0 hi
                rcases ord3 pk qk with ⟨o1, h1⟩ | ⟨o1, h1⟩ | ⟨o1, h1, h1'⟩
                · obtain rfl : ob = true := by rw [hob]; exact decide_eq_true o1
                  clear hob o1
                  go_quiet (fail)
                  go_wp2_with fail
                  go_meet
                  exact ⟨rfl, by (repeat (with_reducible first | exact Ext.refl _ | assumption | refine Ext.drew ?_ | refine Ext.drewN ?_ _ | refine Ext.alloc ?_ _ | refine Ext.trans ?_ (by with_reducible assumption)))⟩
                · obtain rfl : ob = true := by rw [hob]; exact decide_eq_true o1
                  clear hob o1
                  subst h1
                  go_quiet (fail)
                  go_wp2_with fail
                  go_meet
                  exact ⟨rfl, by (repeat (with_reducible first | exact Ext.refl _ | assumption | refine Ext.drew ?_ | refine Ext.drewN ?_ _ | refine Ext.alloc ?_ _ | refine Ext.trans ?_ (by with_reducible assumption)))⟩
                · obtain rfl : ob = false := by rw [hob]; exact decide_eq_false o1
                  clear hob o1
                  go_quiet (fail)
                  go_wp2_with fail
                  go_meet
                  exact ⟨rfl, by (repeat (with_reducible first | exact Ext.refl _ | assumption | refine Ext.drew ?_ | refine Ext.drewN ?_ _ | refine Ext.alloc ?_ _ | refine Ext.trans ?_ (by with_reducible assumption)))⟩
            case rest =>
            as_aux_lemma =>
            obtain ⟨rfl, e4⟩ := hcut
            have e4w := hbw.trans e4
            cases ob with
            | true =>
              have hk : k = 7 := by
                have h3 := HST.out
                rw [HPK.out, if_pos rfl, if_pos (by decide)] at h3
                exact h3
              subst hk
              go_wp2_with fail
              go_ret
              exact ⟨rfl, e4w⟩
            | false =>
              have hst2 : tabGo (es.take (j + 1)) (es.drop (j + 1)) = k := by
                have h3 := HST.out
                rw [HPK.out, if_neg (by decide)] at h3
                exact h3.symm
              have HST2 := Lib.hid hst2
              clear hst2 HST hgo
              go_wp2_with fail
              go_roundw
              case rel => exact ⟨j + 1, by go_num, by omega, e4w, HST2⟩
              case measure => simp [intOf]; omega
      · have hk : k = keyK pk := by
          have h3 := HST.out
          have h4 : tabK (es.take j) ⟨pk, pv, pg⟩ = keyK pk := by unfold tabK; rw [if_pos hk0]
          rw [h4, if_pos hk0] at h3
          exact h3
        rw [← hk]
        have hkz : ¬ k = 0 := by rw [hk]; exact hk0
        clear hk0 hk
        go_wp2_with fail
        go_ret
        exact ⟨rfl, hbw⟩
    · have hk : k = 0 := by
        rw [← hgo.out, List.drop_of_length_le (by rw [HX.out]; omega)]; rfl
      subst hk
      go_wp2_with fail
      go_ret
      exact ⟨rfl, hbw⟩
end Go.Proofs.YtnafegofmbhahaaDoor
