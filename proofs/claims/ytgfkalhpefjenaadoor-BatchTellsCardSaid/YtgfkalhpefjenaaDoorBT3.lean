/- The references' batch: Upward. -/
import Derived.Test.YtgfkalhpefjenaaDoorBT2
namespace Go.Proofs.YtgfkalhpefjenaaDoor
open Go.RowKit Go.WideShapes
set_option linter.unusedVariables false
attribute [local go_sem ↓] Go.wp_at_zero Go.wp_at_succ

theorem toldC_some {p q : List Int} {f s : Nat} {v : Int} {st : List Int × List Int} (h : toldC (p, q) f s = some (v, st)) : p = v :: st.1 ∧ st.2 = q ∧ vld v = true := by
  unfold toldC at h
  cases h1 : take1 p with
  | none => rw [h1] at h; cases h
  | some x =>
    rw [h1] at h
    simp only [Option.map_some, Option.some.injEq, Prod.mk.injEq] at h
    obtain ⟨e1, e2⟩ := h
    obtain ⟨a, b⟩ := x
    simp only at e1 e2
    subst e1 e2
    obtain ⟨h2, h3⟩ := take1_some h1
    exact ⟨h2, rfl, h3⟩
theorem leafC_some {p q : List Int} {v : Int} {st : List Int × List Int} (h : leafC (p, q) = some (v, st)) : q = v :: st.2 ∧ st.1 = p ∧ vld v = true := by
  unfold leafC at h
  cases h1 : take1 q with
  | none => rw [h1] at h; cases h
  | some x =>
    rw [h1] at h
    simp only [Option.map_some, Option.some.injEq, Prod.mk.injEq] at h
    obtain ⟨e1, e2⟩ := h
    obtain ⟨a, b⟩ := x
    simp only at e1 e2
    subst e1 e2
    obtain ⟨h2, h3⟩ := take1_some h1
    exact ⟨h2, rfl, h3⟩
theorem walkC_vld : ∀ (N f s : Nat) (l : List Int) (p q : List Int) (v : Int) (st : List Int × List Int), s ≤ N → 1 ≤ s → s ≤ 4096 → walkP toldC leafC f s l (p, q) = some (v, st) → vld v = true
  | 0, f, s, l, p, q, v, st, h, h1, _, _ => by omega
  | N + 1, f, s, l, p, q, v, st, h, h1, hs, hw => by
    by_cases hl : l = []
    · subst hl
      rw [walkP_none] at hw
      exact (toldC_some hw).2.2
    · by_cases hs1 : s = 1
      · subst hs1
        rw [walkP_leaf f hl] at hw
        exact (leafC_some hw).2.2
      · obtain ⟨a, b, z, h3, h4, rfl⟩ := walkP_split hl (by omega) hs hw
        exact vld_node _ _
theorem walkC_some (xs : List Int) : ∀ (N f s : Nat) (l p q : List Int), s ≤ N → 1 ≤ s → s ≤ 4096 → inPart f s l → allV p = true → allV q = true → (provL xs f s l).length ≤ p.length → l.length ≤ q.length → ∃ v, walkP toldC leafC f s l (p, q) = some (v, (p.drop (provL xs f s l).length, q.drop l.length))
  | 0, f, s, l, p, q, h, h1, _, _, _, _, _, _ => by omega
  | N + 1, f, s, l, p, q, h, h1, hs, hin, hp, hq, hpl, hql => by
    by_cases hl : l = []
    · subst hl
      rw [provL_none] at hpl ⊢
      cases p with
      | nil => simp at hpl
      | cons x p =>
        have hx : vld x = true := by unfold allV at hp; rw [List.all_cons, Bool.and_eq_true] at hp; exact hp.1
        refine ⟨x, ?_⟩
        rw [walkP_none]
        unfold toldC
        rw [take1_cons hx]
        rfl
    · by_cases hs1 : s = 1
      · subst hs1
        rw [provL_leaf xs f hl] at hpl ⊢
        have h1l := inPart_one hin hl
        cases q with
        | nil => rw [h1l] at hql; simp at hql
        | cons x q =>
          have hx : vld x = true := by unfold allV at hq; rw [List.all_cons, Bool.and_eq_true] at hq; exact hq.1
          refine ⟨x, ?_⟩
          rw [walkP_leaf f hl]
          unfold leafC
          rw [take1_cons hx, h1l]
          rfl
      · have h2 : 2 ≤ s := by omega
        have hk := half_lt h2 hs
        have hk0 := half_pos s
        have hpr := provL_two xs (f := f) hl h2 hs
        have hbl := belowN_le l ((f : Int) + (half s : Nat))
        have i1 := inPart_left (k := half s) hin
        have i2 := inPart_right (k := half s) hin (by omega)
        rw [hpr, List.length_append] at hpl
        obtain ⟨a, ha⟩ := walkC_some xs N f (half s) _ p q (by omega) hk0 (by omega) i1 hp hq (by omega) (by rw [List.length_take]; omega)
        obtain ⟨b, hb⟩ := walkC_some xs N (f + half s) (s - half s) _ (p.drop _) (q.drop _) (by omega) (by omega) (by omega) i2 (allV_drop hp (provL xs f (half s) (l.take (belowN l ((f : Int) + (half s : Nat))))).length) (allV_drop hq (l.take (belowN l ((f : Int) + (half s : Nat)))).length) (by rw [List.length_drop]; omega) (by rw [List.length_drop, List.length_drop, List.length_take]; omega)
        refine ⟨nodeL a b, ?_⟩
        rw [walkP_join hl h2 hs ha hb, List.drop_drop, List.drop_drop, hpr, List.length_append]
        have : (l.take (belowN l ((f : Int) + (half s : Nat)))).length + (l.drop (belowN l ((f : Int) + (half s : Nat)))).length = l.length := by rw [← List.length_append, List.take_append_drop]
        rw [this]

set_option maxRecDepth 100000 in
set_option maxHeartbeats 2000000 in
theorem Upward_any (A : Option Addr) (n c : Nat) (l : List Int) (hm : c ≤ maxLen) (hasc : l.Pairwise (· < ·)) (N : Nat) : ∀ (f s : Nat) (A2 A3 : Option Addr) (n2 c2 n3 c3 : Nat) (q p : List Int) (v : Int) (st : List Int × List Int) (w : World), s ≤ N → 1 ≤ s → f + s ≤ 4096 → Rd w 1 A n c (l.map (Value.int .i64)) →
    Rd w 1 A2 n2 c2 (q.map (Value.int .i64)) → c2 ≤ maxLen → Rd w 1 A3 n3 c3 (p.map (Value.int .i64)) → c3 ≤ maxLen → walkP toldC leafC f s (partL l f s) (p, q) = some (v, st) →
    Calls Tryd.prog 86 #[.slice A n c, .int .i64 f, .int .i64 s, .slice A2 n2 c2, .slice A3 n3 c3] w fun e w' => (∃ A2' c2' A3' c3', e = .returned (.tuple #[.int .i64 v, .slice A2' st.2.length c2', .slice A3' st.1.length c3']) ∧ c2' ≤ maxLen ∧ Rd w' 1 A2' st.2.length c2' (st.2.map (Value.int .i64)) ∧ c3' ≤ maxLen ∧ Rd w' 1 A3' st.1.length c3' (st.1.map (Value.int .i64))) ∧ Ext w w' := by
  induction N with
  | zero => intro f s A2 A3 n2 c2 n3 c3 q p v st w h h1; omega
  | succ N ih =>
    intro f s A2 A3 n2 c2 n3 c3 q p v st w h h1 hf hr hr2 hm2 hr3 hm3 hw
    have IH := Lib.hid ih
    have hl2 := hr2.2.1
    have hl3 := hr3.2.1
    have hms2 : c2 ≤ 9223372036854775807 := by unfold maxLen at hm2; omega
    have hms3 : c3 ≤ 9223372036854775807 := by unfold maxLen at hm3; omega
    clear ih
    by_cases hp : partL l f s = []
    · have HA := Lib.hid (anyB_no hp)
      rw [hp, walkP_none] at hw
      obtain ⟨w1, w2, w3⟩ := toldC_some hw
      obtain ⟨sp, sq⟩ := st
      simp only at w1 w2
      subst w1 w2
      have hx3 := hr3.lenI
      rw [List.length_cons] at hx3
      subst hx3
      have hx2 := hr2.lenI
      subst hx2
      obtain ⟨ad, rfl, hb, hcell0⟩ := hr3.getI (j := 0) (z := v) rfl
      have hcell : w.cell? ad = some (.int .i64 v) := hcell0
      clear hcell0
      have RD := hr3.dropI (k := 1) (by omega)
      rw [show (v :: sp).drop 1 = sp from rfl, Nat.add_sub_cancel] at RD
      clear hp hw
      by_cases hc1 : c3 = 1
      · rw [if_pos hc1, hc1] at RD
        go_enter Tryd.func86, Tryd.ntmps86
        go_wp2_with fail
        refine (Sany_any A n c l f s _ hr hm (by omega) (by omega)).mono ?_
        rw [HA.out]
        rintro _ _ ⟨rfl, rfl⟩
        go_wp2_with fail
        go_quiet (fail)
        go_wp2_with fail
        go_ret3
        exact ⟨⟨A2, c2, _, 0, rfl, hm2, hr2.ext (by (repeat (with_reducible first | exact Ext.refl _ | assumption | refine Ext.drew ?_ | refine Ext.drewN ?_ _ | refine Ext.alloc ?_ _ | refine Ext.trans ?_ (by with_reducible assumption)))), Nat.zero_le _, RD.ext (by (repeat (with_reducible first | exact Ext.refl _ | assumption | refine Ext.drew ?_ | refine Ext.drewN ?_ _ | refine Ext.alloc ?_ _ | refine Ext.trans ?_ (by with_reducible assumption))))⟩, by (repeat (with_reducible first | exact Ext.refl _ | assumption | refine Ext.drew ?_ | refine Ext.drewN ?_ _ | refine Ext.alloc ?_ _ | refine Ext.trans ?_ (by with_reducible assumption)))⟩
      · rw [if_neg hc1] at RD
        go_enter Tryd.func86, Tryd.ntmps86
        go_wp2_with fail
        refine (Sany_any A n c l f s _ hr hm (by omega) (by omega)).mono ?_
        rw [HA.out]
        rintro _ _ ⟨rfl, rfl⟩
        go_wp2_with fail
        go_quiet (fail)
        go_wp2_with fail
        go_ret3
        exact ⟨⟨A2, c2, _, c3 - 1, rfl, hm2, hr2.ext (by (repeat (with_reducible first | exact Ext.refl _ | assumption | refine Ext.drew ?_ | refine Ext.drewN ?_ _ | refine Ext.alloc ?_ _ | refine Ext.trans ?_ (by with_reducible assumption)))), (by have := hm3; omega), RD.ext (by (repeat (with_reducible first | exact Ext.refl _ | assumption | refine Ext.drew ?_ | refine Ext.drewN ?_ _ | refine Ext.alloc ?_ _ | refine Ext.trans ?_ (by with_reducible assumption))))⟩, by (repeat (with_reducible first | exact Ext.refl _ | assumption | refine Ext.drew ?_ | refine Ext.drewN ?_ _ | refine Ext.alloc ?_ _ | refine Ext.trans ?_ (by with_reducible assumption)))⟩
    · have HA := Lib.hid (anyB_yes hp)
      by_cases hs1 : s = 1
      · subst hs1
        rw [walkP_leaf f hp] at hw
        obtain ⟨w1, w2, w3⟩ := leafC_some hw
        obtain ⟨sp, sq⟩ := st
        simp only at w1 w2
        subst w1 w2
        have hx2 := hr2.lenI
        rw [List.length_cons] at hx2
        subst hx2
        have hx3 := hr3.lenI
        subst hx3
        obtain ⟨ad, rfl, hb, hcell0⟩ := hr2.getI (j := 0) (z := v) rfl
        have hcell : w.cell? ad = some (.int .i64 v) := hcell0
        clear hcell0
        have RD := hr2.dropI (k := 1) (by omega)
        rw [show (v :: sq).drop 1 = sq from rfl, Nat.add_sub_cancel] at RD
        clear hp hw
        by_cases hc1 : c2 = 1
        · rw [if_pos hc1, hc1] at RD
          go_enter Tryd.func86, Tryd.ntmps86
          go_wp2_with fail
          refine (Sany_any A n c l f 1 _ hr hm (by omega) (by omega)).mono ?_
          rw [HA.out]
          rintro _ _ ⟨rfl, rfl⟩
          go_wp2_with fail
          go_quiet (fail)
          go_wp2_with fail
          go_ret3
          exact ⟨⟨_, 0, A3, c3, rfl, Nat.zero_le _, RD.ext (by (repeat (with_reducible first | exact Ext.refl _ | assumption | refine Ext.drew ?_ | refine Ext.drewN ?_ _ | refine Ext.alloc ?_ _ | refine Ext.trans ?_ (by with_reducible assumption)))), hm3, hr3.ext (by (repeat (with_reducible first | exact Ext.refl _ | assumption | refine Ext.drew ?_ | refine Ext.drewN ?_ _ | refine Ext.alloc ?_ _ | refine Ext.trans ?_ (by with_reducible assumption))))⟩, by (repeat (with_reducible first | exact Ext.refl _ | assumption | refine Ext.drew ?_ | refine Ext.drewN ?_ _ | refine Ext.alloc ?_ _ | refine Ext.trans ?_ (by with_reducible assumption)))⟩
        · rw [if_neg hc1] at RD
          go_enter Tryd.func86, Tryd.ntmps86
          go_wp2_with fail
          refine (Sany_any A n c l f 1 _ hr hm (by omega) (by omega)).mono ?_
          rw [HA.out]
          rintro _ _ ⟨rfl, rfl⟩
          go_wp2_with fail
          go_quiet (fail)
          go_wp2_with fail
          go_ret3
          exact ⟨⟨_, c2 - 1, A3, c3, rfl, (by have := hm2; omega), RD.ext (by (repeat (with_reducible first | exact Ext.refl _ | assumption | refine Ext.drew ?_ | refine Ext.drewN ?_ _ | refine Ext.alloc ?_ _ | refine Ext.trans ?_ (by with_reducible assumption)))), hm3, hr3.ext (by (repeat (with_reducible first | exact Ext.refl _ | assumption | refine Ext.drew ?_ | refine Ext.drewN ?_ _ | refine Ext.alloc ?_ _ | refine Ext.trans ?_ (by with_reducible assumption))))⟩, by (repeat (with_reducible first | exact Ext.refl _ | assumption | refine Ext.drew ?_ | refine Ext.drewN ?_ _ | refine Ext.alloc ?_ _ | refine Ext.trans ?_ (by with_reducible assumption)))⟩
      · have h2 : 2 ≤ s := by omega
        have hk := half_lt h2 (by omega)
        have hk0 := half_pos s
        obtain ⟨a, b, z, h3, h4, rfl⟩ := walkP_split hp h2 (by omega) hw
        rw [partL_left hasc (by omega)] at h3
        rw [partL_right hasc (by omega)] at h4
        have V1 := Lib.hid (walkC_vld (half s) f (half s) _ _ _ _ _ (Nat.le_refl _) hk0 (by omega) h3)
        have V2 := Lib.hid (walkC_vld (s - half s) (f + half s) (s - half s) _ _ _ _ _ (Nat.le_refl _) (by omega) (by omega) h4)
        have H3 := Lib.hid h3
        have H4 := Lib.hid h4
        have e1 : ((s : Int) == 1) = false := by simp; omega
        have HK : Hid ((s : Int) - (half s : Int) = ((s - half s : Nat) : Int)) := by show _ = _; omega
        have HK2 : Hid ((f : Int) + (half s : Int) = ((f + half s : Nat) : Int)) := by show _ = _; omega
        clear hp hw h3 h4
        go_enter Tryd.func86, Tryd.ntmps86
        go_wp2_with fail
        refine (Sany_any A n c l f s _ hr hm (by omega) (by omega)).mono ?_
        rw [HA.out]
        rintro _ _ ⟨rfl, rfl⟩
        go_wp2_with fail
        refine (RHalf_any s _ h1 (by omega)).mono ?_
        rintro _ _ ⟨rfl, rfl⟩
        go_wp2_with fail
        refine (IH.out f (half s) A2 A3 n2 c2 n3 c3 q p a z _ (by omega) hk0 (by omega) hr hr2 hm2 hr3 hm3 H3.out).mono ?_
        rintro _ w1 ⟨⟨B2, d2, B3, d3, rfl, k2, r2, k3, r3⟩, hb1⟩
        go_wp2_with fail
        rw [HK.out, HK2.out]
        refine (IH.out (f + half s) (s - half s) B2 B3 _ d2 _ d3 z.2 z.1 b st _ (by omega) (by omega) (by omega) (hr.ext hb1) r2 k2 r3 k3 H4.out).mono ?_
        rintro _ w2 ⟨⟨C2, e2, C3, e3, rfl, k4, r4, k5, r5⟩, hb2⟩
        go_wp2_with fail
        refine (RNode_any a b _ V1.out V2.out).mono ?_
        rintro _ w3 ⟨rfl, hb3⟩
        go_wp2_with fail
        go_ret3
        exact ⟨⟨C2, e2, C3, e3, rfl, k4, r4.ext hb3, k5, r5.ext hb3⟩, (hb1.trans hb2).trans hb3⟩
end Go.Proofs.YtgfkalhpefjenaaDoor
