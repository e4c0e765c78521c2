/- witsame.Pairs, whatever the pairs. -/
import Derived.Test.YtblojobgchkipaaPairsSame
namespace Go.Proofs.Ytblojobgchkipaa
open Go.RowKit
set_option linter.unusedVariables false
attribute [local go_sem ↓] Go.wp_at_zero Go.wp_at_succ

theorem pr_ext {a b : Pr} (h1 : a.key = b.key) (h2 : a.value = b.value) (h3 : a.gone = b.gone) : a = b := by
  obtain ⟨_, _, _⟩ := a
  obtain ⟨_, _, _⟩ := b
  simp only at h1 h2 h3
  subst h1 h2 h3
  rfl
set_option maxRecDepth 100000 in
set_option maxHeartbeats 1000000 in
theorem Pairs_not (A A' : Option Addr) (n n' c c' : Nat) (es es' : List Pr) (w : World) (hr : Rd w 3 A n c (es.flatMap Pr.cells)) (hr' : Rd w 3 A' n' c' (es'.flatMap Pr.cells)) (hm : n ≤ 9223372036854775807) (hm' : n' ≤ 9223372036854775807) (hne : es ≠ es') :
    Calls Try.prog 11 #[.slice A n c, .slice A' n' c'] w fun e w' => e = .returned (.bool false) ∧ Ext w w' := by
  have HX := Lib.hid hr.lenP
  have HX' := Lib.hid hr'.lenP
  have hl := hr.2.1
  have hl' := hr'.2.1
  have HNE := Lib.hid hne
  clear hne
  by_cases hnn : n = n'
  · subst hnn
    have H0 : Hid (es.take 0 = es'.take 0) := rfl
    go_enter Try.func11, Try.ntmps11
    go_wp2_with fail
    go_loopw [5] (fun x wr => ∃ j : Nat, x = .int .i64 j ∧ j ≤ n ∧ Ext w wr ∧ Hid (es.take j = es'.take j)) (fun x _ => n - (intOf x).toNat)
    case atStart => exact ⟨0, rfl, Nat.zero_le _, by (repeat (with_reducible first | exact Ext.refl _ | assumption | refine Ext.drew ?_ | refine Ext.drewN ?_ _ | refine Ext.alloc ?_ _ | refine Ext.trans ?_ (by with_reducible assumption))), H0⟩
    case round =>
      obtain ⟨j, rfl, hj, hbw, htk⟩ := hrel
      by_cases hc : j < n
      · have hgj := List.getElem?_eq_getElem (l := es) (i := j) (by rw [HX.out]; exact hc)
        have hgj' := List.getElem?_eq_getElem (l := es') (i := j) (by rw [HX'.out]; exact hc)
        obtain ⟨ad, rfl, hb, c0, c1, c2⟩ := (hr.ext hbw).getP hgj
        obtain ⟨ad', rfl, hb', c0', c1', c2'⟩ := (hr'.ext hbw).getP hgj'
        have hstep : es[j]'(by rw [HX.out]; exact hc) = es'[j]'(by rw [HX'.out]; exact hc) → es.take (j + 1) = es'.take (j + 1) := fun h => by
          rw [List.take_succ_eq_append_getElem (by rw [HX.out]; exact hc), List.take_succ_eq_append_getElem (by rw [HX'.out]; exact hc), htk.out, h]
        generalize es[j]'(by rw [HX.out]; exact hc) = e at *
        generalize es'[j]'(by rw [HX'.out]; exact hc) = e' at *
        obtain ⟨ek, ev, eg⟩ := e
        obtain ⟨fk, fv, fg⟩ := e'
        simp only at c0 c1 c2 c0' c1' c2'
        have HST := Lib.hid hstep
        have hcN : (j : Int) < (n : Int) := by omega
        clear hgj hgj' hstep
        by_cases h1 : ek = fk
        · subst h1
          by_cases h2 : ev = fv
          · subst h2
            by_cases h3 : eg = fg
            · subst h3
              have HT := Lib.hid (HST.out rfl)
              go_wp2_with fail
              go_quiet (fail)
              go_wp2_with fail
              go_roundw
              case rel => exact ⟨j + 1, by go_num, by omega, by (repeat (with_reducible first | exact Ext.refl _ | assumption | refine Ext.drew ?_ | refine Ext.drewN ?_ _ | refine Ext.alloc ?_ _ | refine Ext.trans ?_ (by with_reducible assumption))), HT⟩
              case measure => simp [intOf]; omega
            · have b3 : (eg == fg) = false := beq_eq_false_iff_ne.2 h3
              clear h3
              go_wp2_with fail
              go_quiet (fail)
              go_wp2_with fail
              go_ret
              exact ⟨rfl, by (repeat (with_reducible first | exact Ext.refl _ | assumption | refine Ext.drew ?_ | refine Ext.drewN ?_ _ | refine Ext.alloc ?_ _ | refine Ext.trans ?_ (by with_reducible assumption)))⟩
          · have b2 := (Lib.bytes_beq_false_iff ev fv).2 h2
            clear h2
            go_wp2_with fail
            go_quiet (fail)
            go_wp2_with fail
            go_ret
            exact ⟨rfl, by (repeat (with_reducible first | exact Ext.refl _ | assumption | refine Ext.drew ?_ | refine Ext.drewN ?_ _ | refine Ext.alloc ?_ _ | refine Ext.trans ?_ (by with_reducible assumption)))⟩
        · have b1 := (Lib.bytes_beq_false_iff ek fk).2 h1
          clear h1
          go_wp2_with fail
          go_quiet (fail)
          go_wp2_with fail
          go_ret
          exact ⟨rfl, by (repeat (with_reducible first | exact Ext.refl _ | assumption | refine Ext.drew ?_ | refine Ext.drewN ?_ _ | refine Ext.alloc ?_ _ | refine Ext.trans ?_ (by with_reducible assumption)))⟩
      · exfalso
        obtain rfl : j = n := by omega
        refine HNE.out ?_
        have h := htk.out
        rw [List.take_of_length_le (by rw [HX.out]; exact Nat.le_refl _), List.take_of_length_le (by rw [HX'.out]; exact Nat.le_refl _)] at h
        exact h
  · have hnb : ((n : Int) == (n' : Int)) = false := beq_eq_false_iff_ne.2 (fun h => hnn (by omega))
    clear hnn
    go_enter Try.func11, Try.ntmps11
    go_wp2_with fail
    go_ret
    exact ⟨rfl, by (repeat (with_reducible first | exact Ext.refl _ | assumption | refine Ext.drew ?_ | refine Ext.drewN ?_ _ | refine Ext.alloc ?_ _ | refine Ext.trans ?_ (by with_reducible assumption)))⟩
end Go.Proofs.Ytblojobgchkipaa
