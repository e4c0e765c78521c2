import Derived.Test.YtgfkalhpefjenaaDoorBatch
namespace Go.Proofs.YtgfkalhpefjenaaDoor
open Go.RowKit Go.WideShapes
set_option linter.unusedVariables false
attribute [local go_sem ↓] Go.wp_at_zero Go.wp_at_succ

theorem less_one {j : Nat} (h : 1 ≤ j) : ((j : Int) - 1).toNat = j - 1 := by omega

set_option maxRecDepth 100000 in
set_option maxHeartbeats 1000000 in
theorem places_any (size : Int) (A : Option Addr) (n c : Nat) (l : List Int) (w : World) (hr : Rd w 1 A n c (l.map (Value.int .i64))) (hm : c ≤ maxLen) :
    Calls Tryd.prog 126 #[.int .i64 size, .slice A n c] w fun e w' => e = .returned (errR (placesK size l)) ∧ Ext w w' := by
  have hx := hr.lenI
  have hnc := hr.2.1
  have hm' := hm
  unfold maxLen at hm
  by_cases h4 : 400 < n
  · have HK : Hid (errR (placesK size l) = errV 4) := by show _ = _; unfold placesK; rw [if_pos (by omega)]; rfl
    clear hr hx
    go_enter Tryd.func126, Tryd.ntmps126
    go_wp2_with fail
    go_ret
    exact ⟨by rw [HK.out]; rfl, by (repeat (with_reducible first | exact Ext.refl _ | assumption | refine Ext.drew ?_ | refine Ext.drewN ?_ _ | refine Ext.alloc ?_ _ | refine Ext.trans ?_ (by with_reducible assumption)))⟩
  have hn : n ≤ 400 := by omega
  have HX := Lib.hid hx
  cases hin : allIn size l
  · have HK : Hid (errR (placesK size l) = errV 1) := by show _ = _; unfold placesK; rw [if_neg (by omega), hin, if_pos rfl]; rfl
    obtain ⟨j0, z0, g0, g1, g2⟩ := allIn_not hin
    have hj0 : j0 < n := by have := (List.getElem?_eq_some_iff.1 g0).1; omega
    have G0 := Lib.hid g0
    have G1 := Lib.hid g1
    have G2 := Lib.hid g2
    clear hx hin g0 g1 g2
    go_enter Tryd.func126, Tryd.ntmps126
    go_wp2_with fail
    go_loop [14] (fun x => ∃ j : Nat, x = .int .i64 j ∧ j ≤ j0) (fun x => n - (intOf x).toNat)
    case atStart => exact ⟨0, rfl, Nat.zero_le _⟩
    case round =>
      obtain ⟨j, rfl, hj⟩ := hrel
      by_cases hc : j < j0
      · have hz := List.getElem?_eq_getElem (l := l) (i := j) (by rw [HX.out]; omega)
        obtain ⟨ad, rfl, hb, hcell⟩ := hr.getI hz
        obtain ⟨v1, v2⟩ := G2.out j _ hc hz
        generalize l[j]'(by rw [HX.out]; omega) = z at *
        have hjn : j < n := by omega
        go_wp2_with fail
        go_round
        case rel => exact ⟨j + 1, by go_num, by omega⟩
        case measure => simp [intOf]; omega
      · obtain rfl : j = j0 := by omega
        obtain ⟨ad, rfl, hb, hcell⟩ := hr.getI G0.out
        have g1 : z0 < 0 ∨ (0 ≤ z0 ∧ size ≤ z0) := by have := G1.out; omega
        rcases g1 with g1 | ⟨g1, g1'⟩
        · go_wp2_with fail
          go_ret
          exact ⟨by rw [HK.out]; rfl, by (repeat (with_reducible first | exact Ext.refl _ | assumption | refine Ext.drew ?_ | refine Ext.drewN ?_ _ | refine Ext.alloc ?_ _ | refine Ext.trans ?_ (by with_reducible assumption)))⟩
        · go_wp2_with fail
          go_ret
          exact ⟨by rw [HK.out]; rfl, by (repeat (with_reducible first | exact Ext.refl _ | assumption | refine Ext.drew ?_ | refine Ext.drewN ?_ _ | refine Ext.alloc ?_ _ | refine Ext.trans ?_ (by with_reducible assumption)))⟩
  have HIN := Lib.hid fun (j : Nat) (z : Int) (hz : l[j]? = some z) => allIn_get hin hz
  cases hri : rises l
  · have HK : Hid (errR (placesK size l) = errV 7) := by show _ = _; unfold placesK; rw [if_neg (by omega), hin, if_neg (by decide), hri, if_pos rfl]; rfl
    obtain ⟨j0, x0, y0, g0, g0', g1, g2⟩ := rises_not hri
    have hj0 : j0 + 1 < n := by have := (List.getElem?_eq_some_iff.1 g0').1; omega
    have G0 := Lib.hid g0
    have G0' := Lib.hid g0'
    have G2 := Lib.hid g2
    clear hx hin hri g0 g0' g2
    go_enter Tryd.func126, Tryd.ntmps126
    go_wp2_with fail
    go_loop [14] (fun x => ∃ j : Nat, x = .int .i64 j ∧ j ≤ n) (fun x => n - (intOf x).toNat)
    case atStart => exact ⟨0, rfl, Nat.zero_le _⟩
    case round =>
      obtain ⟨j, rfl, hj⟩ := hrel
      by_cases hc : j < n
      · have hz := List.getElem?_eq_getElem (l := l) (i := j) (by rw [HX.out]; omega)
        obtain ⟨ad, rfl, hb, hcell⟩ := hr.getI hz
        obtain ⟨v1, v2⟩ := HIN.out j _ hz
        generalize l[j]'(by rw [HX.out]; omega) = z at *
        go_wp2_with fail
        go_round
        case rel => exact ⟨j + 1, by go_num, by omega⟩
        case measure => simp [intOf]; omega
      · obtain rfl : j = n := by omega
        go_wp2_with fail
        go_loopw [7] (fun x wr => ∃ j' : Nat, x = .int .i64 j' ∧ 1 ≤ j' ∧ j' ≤ j0 + 1 ∧ Ext w wr) (fun x _ => j - (intOf x).toNat)
        case atStart => exact ⟨1, rfl, by omega, by omega, by (repeat (with_reducible first | exact Ext.refl _ | assumption | refine Ext.drew ?_ | refine Ext.drewN ?_ _ | refine Ext.alloc ?_ _ | refine Ext.trans ?_ (by with_reducible assumption)))⟩
        case round =>
          obtain ⟨j', rfl, hj1, hj2, hbw⟩ := hrel
          have k1 : IntKind.i64.wrap ((j' : Int) - 1) = (j' : Int) - 1 := IntWalk.i64_in _ (by omega)
          have k2 := less_one hj1
          have k3 : 0 ≤ (j' : Int) - 1 := by omega
          have k4 : 1 ≤ (j' : Int) := by omega
          have k5 : (j' : Int) - 1 < (j : Int) := by omega
          have k6 : (j' : Int) < (j : Int) := by omega
          have k7 : j' < j := by omega
          by_cases hc2 : j' < j0 + 1
          · have hz := List.getElem?_eq_getElem (l := l) (i := j' - 1) (by rw [HX.out]; omega)
            have hz' := List.getElem?_eq_getElem (l := l) (i := j') (by rw [HX.out]; omega)
            have hlt := G2.out (j' - 1) _ _ (by omega) hz (by rw [Nat.sub_add_cancel hj1]; exact hz')
            obtain ⟨ad, rfl, hb, hcell⟩ := (hr.ext hbw).getI hz
            obtain ⟨ad', e, hb', hcell'⟩ := (hr.ext hbw).getI hz'
            obtain rfl : ad = ad' := by injection e
            generalize l[j' - 1]'(by rw [HX.out]; omega) = a at *
            generalize l[j']'(by rw [HX.out]; omega) = b at *
            clear hz hz' e
            go_wp2_with fail
            go_quiet (fail)
            go_wp2_with fail
            go_roundw
            case rel => exact ⟨j' + 1, by go_num, by omega, by omega, by (repeat (with_reducible first | exact Ext.refl _ | assumption | refine Ext.drew ?_ | refine Ext.drewN ?_ _ | refine Ext.alloc ?_ _ | refine Ext.trans ?_ (by with_reducible assumption)))⟩
            case measure => simp [intOf]; omega
          · have z1 : l[j' - 1]? = some x0 := by rw [show j' - 1 = j0 by omega]; exact G0.out
            have z2 : l[j']? = some y0 := by rw [show j' = j0 + 1 by omega]; exact G0'.out
            obtain ⟨ad, rfl, hb, hcell⟩ := (hr.ext hbw).getI z1
            obtain ⟨ad', e, hb', hcell'⟩ := (hr.ext hbw).getI z2
            obtain rfl : ad = ad' := by injection e
            clear e z1 z2
            go_wp2_with fail
            go_quiet (fail)
            go_wp2_with fail
            go_ret
            exact ⟨by rw [HK.out]; rfl, by (repeat (with_reducible first | exact Ext.refl _ | assumption | refine Ext.drew ?_ | refine Ext.drewN ?_ _ | refine Ext.alloc ?_ _ | refine Ext.trans ?_ (by with_reducible assumption)))⟩
  · have HK : Hid (errR (placesK size l) = .nilIface) := by show _ = _; unfold placesK; rw [if_neg (by omega), hin, if_neg (by decide), hri, if_neg (by decide)]; rfl
    have HRI := Lib.hid fun (j : Nat) (x y : Int) (hx : l[j]? = some x) (hy : l[j + 1]? = some y) => rises_get hri hx hy
    clear hx hin hri
    go_enter Tryd.func126, Tryd.ntmps126
    go_wp2_with fail
    go_loop [14] (fun x => ∃ j : Nat, x = .int .i64 j ∧ j ≤ n) (fun x => n - (intOf x).toNat)
    case atStart => exact ⟨0, rfl, Nat.zero_le _⟩
    case round =>
      obtain ⟨j, rfl, hj⟩ := hrel
      by_cases hc : j < n
      · have hz := List.getElem?_eq_getElem (l := l) (i := j) (by rw [HX.out]; omega)
        obtain ⟨ad, rfl, hb, hcell⟩ := hr.getI hz
        obtain ⟨v1, v2⟩ := HIN.out j _ hz
        generalize l[j]'(by rw [HX.out]; omega) = z at *
        go_wp2_with fail
        go_round
        case rel => exact ⟨j + 1, by go_num, by omega⟩
        case measure => simp [intOf]; omega
      · obtain rfl : j = n := by omega
        go_wp2_with fail
        go_loopw [7] (fun x wr => ∃ j' : Nat, x = .int .i64 j' ∧ 1 ≤ j' ∧ Ext w wr) (fun x _ => j - (intOf x).toNat)
        case atStart => exact ⟨1, rfl, by omega, by (repeat (with_reducible first | exact Ext.refl _ | assumption | refine Ext.drew ?_ | refine Ext.drewN ?_ _ | refine Ext.alloc ?_ _ | refine Ext.trans ?_ (by with_reducible assumption)))⟩
        case round =>
          obtain ⟨j', rfl, hj1, hbw⟩ := hrel
          by_cases hc2 : j' < j
          · have k1 : IntKind.i64.wrap ((j' : Int) - 1) = (j' : Int) - 1 := IntWalk.i64_in _ (by omega)
            have k2 := less_one hj1
            have k3 : 0 ≤ (j' : Int) - 1 := by omega
            have k4 : 1 ≤ (j' : Int) := by omega
            have k5 : (j' : Int) - 1 < (j : Int) := by omega
            have k6 : (j' : Int) < (j : Int) := by omega
            have hz := List.getElem?_eq_getElem (l := l) (i := j' - 1) (by rw [HX.out]; omega)
            have hz' := List.getElem?_eq_getElem (l := l) (i := j') (by rw [HX.out]; omega)
            have hlt := HRI.out (j' - 1) _ _ hz (by rw [Nat.sub_add_cancel hj1]; exact hz')
            obtain ⟨ad, rfl, hb, hcell⟩ := (hr.ext hbw).getI hz
            obtain ⟨ad', e, hb', hcell'⟩ := (hr.ext hbw).getI hz'
            obtain rfl : ad = ad' := by injection e
            generalize l[j' - 1]'(by rw [HX.out]; omega) = a at *
            generalize l[j']'(by rw [HX.out]; omega) = b at *
            clear hz hz' e
            go_wp2_with fail
            go_quiet (fail)
            go_wp2_with fail
            go_roundw
            case rel => exact ⟨j' + 1, by go_num, by omega, by (repeat (with_reducible first | exact Ext.refl _ | assumption | refine Ext.drew ?_ | refine Ext.drewN ?_ _ | refine Ext.alloc ?_ _ | refine Ext.trans ?_ (by with_reducible assumption)))⟩
            case measure => simp [intOf]; omega
          · have k6 : (j : Int) ≤ (j' : Int) := by omega
            go_wp2_with fail
            go_ret
            exact ⟨by rw [HK.out]; rfl, by (repeat (with_reducible first | exact Ext.refl _ | assumption | refine Ext.drew ?_ | refine Ext.drewN ?_ _ | refine Ext.alloc ?_ _ | refine Ext.trans ?_ (by with_reducible assumption)))⟩
end Go.Proofs.YtgfkalhpefjenaaDoor
