/- The references' batch: Places, any; plain: the places of a part. -/
import Derived.Test.YtgfkalhpefjenaaDoorCheckB
import Derived.Test.YtgfkalhpefjenaaDoorR2
import Derived.Test.YtgfkalhpefjenaaDoorRHalf
namespace Go.Proofs.YtgfkalhpefjenaaDoor
open Go.RowKit Go.WideShapes
set_option linter.unusedVariables false
attribute [local go_sem ↓] Go.wp_at_zero Go.wp_at_succ

/-! ### the places of a part -/
def inR (f s : Nat) (x : Int) : Bool := decide ((f : Int) ≤ x ∧ x < (f : Int) + (s : Int))
def partL (at_ : List Int) (f s : Nat) : List Int := at_.filter (inR f s)
theorem partL_in {at_ : List Int} (hr : at_.Pairwise (· < ·)) (f s : Nat) : inPart f s (partL at_ f s) :=
  ⟨hr.sublist List.filter_sublist, fun x hx => of_decide_eq_true (List.mem_filter.1 hx).2⟩
theorem takeWhile_sorted {k : Int} : ∀ {l : List Int}, l.Pairwise (· < ·) → l.takeWhile (fun x => decide (x < k)) = l.filter (fun x => decide (x < k))
  | [], _ => rfl
  | y :: l, h => by
    rw [List.takeWhile_cons, List.filter_cons]
    by_cases hy : y < k
    · rw [if_pos (decide_eq_true hy), if_pos (decide_eq_true hy), takeWhile_sorted (List.pairwise_cons.1 h).2]
    · rw [if_neg (by simpa using hy), if_neg (by simpa using hy)]
      symm
      rw [List.filter_eq_nil_iff]
      intro x hx
      have := (List.pairwise_cons.1 h).1 x hx
      simp; omega
theorem dropWhile_sorted {k : Int} : ∀ {l : List Int}, l.Pairwise (· < ·) → l.dropWhile (fun x => decide (x < k)) = l.filter (fun x => decide (¬ x < k))
  | [], _ => rfl
  | y :: l, h => by
    rw [List.dropWhile_cons, List.filter_cons]
    by_cases hy : y < k
    · rw [if_pos (decide_eq_true hy), if_neg (by simpa using hy), dropWhile_sorted (List.pairwise_cons.1 h).2]
    · rw [if_neg (by simpa using hy), if_pos (by simpa using hy)]
      congr 1
      symm
      rw [List.filter_eq_self]
      intro x hx
      have := (List.pairwise_cons.1 h).1 x hx
      simp; omega
theorem filter_both {p q r : Int → Bool} {l : List Int} (h : ∀ x, (p x && q x) = r x) : (l.filter p).filter q = l.filter r := by
  rw [List.filter_filter]
  congr 1
  funext x
  rw [← h x, Bool.and_comm]
theorem partL_left {at_ : List Int} (hr : at_.Pairwise (· < ·)) {f s k : Nat} (hk : k ≤ s) : (partL at_ f s).take (belowN (partL at_ f s) ((f : Int) + (k : Int))) = partL at_ f k := by
  rw [take_below, takeWhile_sorted (show (partL at_ f s).Pairwise (· < ·) from hr.sublist List.filter_sublist)]
  show (at_.filter (inR f s)).filter _ = at_.filter _
  refine filter_both fun x => ?_
  unfold inR
  rw [← Bool.decide_and]
  congr 1
  simp only [eq_iff_iff]
  omega
theorem partL_right {at_ : List Int} (hr : at_.Pairwise (· < ·)) {f s k : Nat} (hk : k ≤ s) : (partL at_ f s).drop (belowN (partL at_ f s) ((f : Int) + (k : Int))) = partL at_ (f + k) (s - k) := by
  rw [drop_below, dropWhile_sorted (show (partL at_ f s).Pairwise (· < ·) from hr.sublist List.filter_sublist)]
  show (at_.filter (inR f s)).filter _ = at_.filter _
  refine filter_both fun x => ?_
  unfold inR
  rw [← Bool.decide_and]
  congr 1
  simp only [eq_iff_iff]
  omega
theorem partL_all {at_ : List Int} {n : Nat} (h : allIn (n : Int) at_ = true) : partL at_ 0 n = at_ := by
  unfold partL
  rw [List.filter_eq_self]
  intro x hx
  have := of_decide_eq_true (List.all_eq_true.1 h x hx)
  unfold inR
  exact decide_eq_true (by omega)

def anyB (l : List Int) (f s : Nat) : Bool := decide (partL l f s ≠ [])
set_option maxRecDepth 100000 in
theorem Sany_any (A : Option Addr) (n c : Nat) (l : List Int) (f s : Nat) (w : World) (hr : Rd w 1 A n c (l.map (Value.int .i64))) (hm : c ≤ maxLen) (hf : f ≤ 4096) (hs : s ≤ 4096) :
    Calls Tryd.prog 125 #[.slice A n c, .int .i64 f, .int .i64 s] w fun e w' => e = .returned (.bool (anyB l f s)) ∧ w = w' := by
  have HX := Lib.hid hr.lenI
  have hlc := hr.2.1
  have hms : c ≤ 9223372036854775807 := by unfold maxLen at hm; omega
  have i1 : (f : Int) ≤ 4096 := by omega
  have i2 : (s : Int) ≤ 4096 := by omega
  go_enter Tryd.func125, Tryd.ntmps125
  go_wp2_with fail
  go_loop [7] (fun i => ∃ k : Nat, k ≤ n ∧ i = .int .i64 k ∧ Hid (∀ (j : Nat) (u : Int), j < k → l[j]? = some u → inR f s u = false)) (fun i => n - (intOf i).toNat)
  case atStart => exact ⟨0, Nat.zero_le _, rfl, fun j u h => by omega⟩
  case round =>
    obtain ⟨k, hk, rfl, HB⟩ := hrel
    by_cases hlt : k < n
    · have hgk := List.getElem?_eq_getElem (l := l) (i := k) (by rw [HX.out]; exact hlt)
      obtain ⟨ad, rfl, hb, hcell⟩ := hr.getI hgk
      have HG := Lib.hid hgk
      generalize l[k]'(by rw [HX.out]; exact hlt) = u at *
      clear hgk
      rcases (show u < f ∨ ((f : Int) ≤ u ∧ (f : Int) + s ≤ u) ∨ ((f : Int) ≤ u ∧ u < (f : Int) + s) by omega) with h | ⟨h, h'⟩ | ⟨h, h'⟩
      · have HN : Hid (∀ (j : Nat) (v : Int), j < k + 1 → l[j]? = some v → inR f s v = false) := by
          intro j v hj hv
          by_cases e : j = k
          · subst e; rw [HG.out] at hv; injection hv with hv; subst hv; exact decide_eq_false (by omega)
          · exact HB.out j v (by omega) hv
        go_wp2_with fail
        go_round
        case rel => exact ⟨k + 1, by omega, by go_num, HN⟩
        case measure => simp [intOf]; omega
      · have HN : Hid (∀ (j : Nat) (v : Int), j < k + 1 → l[j]? = some v → inR f s v = false) := by
          intro j v hj hv
          by_cases e : j = k
          · subst e; rw [HG.out] at hv; injection hv with hv; subst hv; exact decide_eq_false (by omega)
          · exact HB.out j v (by omega) hv
        go_wp2_with fail
        go_round
        case rel => exact ⟨k + 1, by omega, by go_num, HN⟩
        case measure => simp [intOf]; omega
      · have HF : Hid (anyB l f s = true) := by
          show _ = _
          refine decide_eq_true fun e => ?_
          have : u ∈ partL l f s := List.mem_filter.2 ⟨List.mem_of_getElem? HG.out, decide_eq_true ⟨h, h'⟩⟩
          rw [e] at this
          cases this
        go_wp2_with fail
        go_ret
        exact ⟨by rw [HF.out]; rfl, rfl⟩
    · obtain rfl : k = n := by omega
      have HF : Hid (anyB l f s = false) := by
        show _ = _
        refine decide_eq_false (not_not_intro ?_)
        unfold partL
        rw [List.filter_eq_nil_iff]
        intro x hx
        obtain ⟨j, hj⟩ := List.mem_iff_getElem?.1 hx
        rw [HB.out j x (by have := (List.getElem?_eq_some_iff.1 hj).1; rw [HX.out] at this; exact this) hj]
        decide
      go_wp2_with fail
      go_ret
      exact ⟨by rw [HF.out]; rfl, rfl⟩
set_option maxRecDepth 100000 in
set_option maxHeartbeats 1000000 in
theorem SPlaces_any (size : Int) (A : Option Addr) (n c : Nat) (l : List Int) (w : World) (hr : Rd w 1 A n c (l.map (Value.int .i64))) (hm : c ≤ maxLen) :
    Calls Tryd.prog 81 #[.int .i64 size, .slice A n c] w fun e w' => e = .returned (.int .i64 (placesK size l)) ∧ Ext w w' := by
  have hx := hr.lenI
  have hnc := hr.2.1
  have hm' := hm
  unfold maxLen at hm
  by_cases h4 : 400 < n
  · have HK : Hid (placesK size l = 4) := by show _ = _; unfold placesK; rw [if_pos (by omega)]
    clear hr hx
    go_enter Tryd.func81, Tryd.ntmps81
    go_wp2_with fail
    go_ret
    exact ⟨by rw [HK.out]; rfl, by (repeat (with_reducible first | exact Ext.refl _ | assumption | refine Ext.drew ?_ | refine Ext.drewN ?_ _ | refine Ext.alloc ?_ _ | refine Ext.trans ?_ (by with_reducible assumption)))⟩
  have hn : n ≤ 400 := by omega
  have HX := Lib.hid hx
  cases hin : allIn size l
  · have HK : Hid (placesK size l = 1) := by show _ = _; unfold placesK; rw [if_neg (by omega), hin, if_pos rfl]
    obtain ⟨j0, z0, g0, g1, g2⟩ := allIn_not hin
    have hj0 : j0 < n := by have := (List.getElem?_eq_some_iff.1 g0).1; omega
    have G0 := Lib.hid g0
    have G1 := Lib.hid g1
    have G2 := Lib.hid g2
    clear hx hin g0 g1 g2
    go_enter Tryd.func81, Tryd.ntmps81
    go_wp2_with fail
    go_loop [5] (fun x => ∃ j : Nat, x = .int .i64 j ∧ j ≤ j0) (fun x => n - (intOf x).toNat)
    case atStart => exact ⟨0, rfl, Nat.zero_le _⟩
    case round =>
      obtain ⟨j, rfl, hj⟩ := hrel
      by_cases hc : j < j0
      · have hz := List.getElem?_eq_getElem (l := l) (i := j) (by rw [HX.out]; omega)
        obtain ⟨ad, rfl, hb, hcell⟩ := hr.getI hz
        obtain ⟨v1, v2⟩ := G2.out j _ hc hz
        generalize l[j]'(by rw [HX.out]; omega) = z at *
        have hjn : j < n := by omega
        go_wp2_with fail
        go_round
        case rel => exact ⟨j + 1, by go_num, by omega⟩
        case measure => simp [intOf]; omega
      · obtain rfl : j = j0 := by omega
        obtain ⟨ad, rfl, hb, hcell⟩ := hr.getI G0.out
        have g1 : z0 < 0 ∨ (0 ≤ z0 ∧ size ≤ z0) := by have := G1.out; omega
        rcases g1 with g1 | ⟨g1, g1'⟩
        · go_wp2_with fail
          go_ret
          exact ⟨by rw [HK.out]; rfl, by (repeat (with_reducible first | exact Ext.refl _ | assumption | refine Ext.drew ?_ | refine Ext.drewN ?_ _ | refine Ext.alloc ?_ _ | refine Ext.trans ?_ (by with_reducible assumption)))⟩
        · go_wp2_with fail
          go_ret
          exact ⟨by rw [HK.out]; rfl, by (repeat (with_reducible first | exact Ext.refl _ | assumption | refine Ext.drew ?_ | refine Ext.drewN ?_ _ | refine Ext.alloc ?_ _ | refine Ext.trans ?_ (by with_reducible assumption)))⟩
  have HIN := Lib.hid fun (j : Nat) (z : Int) (hz : l[j]? = some z) => allIn_get hin hz
  cases hri : rises l
  · have HK : Hid (placesK size l = 7) := by show _ = _; unfold placesK; rw [if_neg (by omega), hin, if_neg (by decide), hri, if_pos rfl]
    obtain ⟨j0, x0, y0, g0, g0', g1, g2⟩ := rises_not hri
    have hj0 : j0 + 1 < n := by have := (List.getElem?_eq_some_iff.1 g0').1; omega
    have G0 := Lib.hid g0
    have G0' := Lib.hid g0'
    have G2 := Lib.hid g2
    clear hx hin hri g0 g0' g2
    go_enter Tryd.func81, Tryd.ntmps81
    go_wp2_with fail
    go_loop [5] (fun x => ∃ j : Nat, x = .int .i64 j ∧ j ≤ n) (fun x => n - (intOf x).toNat)
    case atStart => exact ⟨0, rfl, Nat.zero_le _⟩
    case round =>
      obtain ⟨j, rfl, hj⟩ := hrel
      by_cases hc : j < n
      · have hz := List.getElem?_eq_getElem (l := l) (i := j) (by rw [HX.out]; omega)
        obtain ⟨ad, rfl, hb, hcell⟩ := hr.getI hz
        obtain ⟨v1, v2⟩ := HIN.out j _ hz
        generalize l[j]'(by rw [HX.out]; omega) = z at *
        go_wp2_with fail
        go_round
        case rel => exact ⟨j + 1, by go_num, by omega⟩
        case measure => simp [intOf]; omega
      · obtain rfl : j = n := by omega
        go_wp2_with fail
        go_loopw [6] (fun x wr => ∃ j' : Nat, x = .int .i64 j' ∧ 1 ≤ j' ∧ j' ≤ j0 + 1 ∧ Ext w wr) (fun x _ => j - (intOf x).toNat)
        case atStart => exact ⟨1, rfl, by omega, by omega, by (repeat (with_reducible first | exact Ext.refl _ | assumption | refine Ext.drew ?_ | refine Ext.drewN ?_ _ | refine Ext.alloc ?_ _ | refine Ext.trans ?_ (by with_reducible assumption)))⟩
        case round =>
          obtain ⟨j', rfl, hj1, hj2, hbw⟩ := hrel
          have k1 : IntKind.i64.wrap ((j' : Int) - 1) = (j' : Int) - 1 := IntWalk.i64_in _ (by omega)
          have k2 := less_one hj1
          have k3 : 0 ≤ (j' : Int) - 1 := by omega
          have k4 : 1 ≤ (j' : Int) := by omega
          have k5 : (j' : Int) - 1 < (j : Int) := by omega
          have k6 : (j' : Int) < (j : Int) := by omega
          have k7 : j' < j := by omega
          by_cases hc2 : j' < j0 + 1
          · have hz := List.getElem?_eq_getElem (l := l) (i := j' - 1) (by rw [HX.out]; omega)
            have hz' := List.getElem?_eq_getElem (l := l) (i := j') (by rw [HX.out]; omega)
            have hlt := G2.out (j' - 1) _ _ (by omega) hz (by rw [Nat.sub_add_cancel hj1]; exact hz')
            obtain ⟨ad, rfl, hb, hcell⟩ := (hr.ext hbw).getI hz
            obtain ⟨ad', e, hb', hcell'⟩ := (hr.ext hbw).getI hz'
            obtain rfl : ad = ad' := by injection e
            generalize l[j' - 1]'(by rw [HX.out]; omega) = a at *
            generalize l[j']'(by rw [HX.out]; omega) = b at *
            clear hz hz' e
            go_wp2_with fail
            go_quiet (fail)
            go_wp2_with fail
            go_roundw
            case rel => exact ⟨j' + 1, by go_num, by omega, by omega, by (repeat (with_reducible first | exact Ext.refl _ | assumption | refine Ext.drew ?_ | refine Ext.drewN ?_ _ | refine Ext.alloc ?_ _ | refine Ext.trans ?_ (by with_reducible assumption)))⟩
            case measure => simp [intOf]; omega
          · have z1 : l[j' - 1]? = some x0 := by rw [show j' - 1 = j0 by omega]; exact G0.out
            have z2 : l[j']? = some y0 := by rw [show j' = j0 + 1 by omega]; exact G0'.out
            obtain ⟨ad, rfl, hb, hcell⟩ := (hr.ext hbw).getI z1
            obtain ⟨ad', e, hb', hcell'⟩ := (hr.ext hbw).getI z2
            obtain rfl : ad = ad' := by injection e
            clear e z1 z2
            go_wp2_with fail
            go_quiet (fail)
            go_wp2_with fail
            go_ret
            exact ⟨by rw [HK.out]; rfl, by (repeat (with_reducible first | exact Ext.refl _ | assumption | refine Ext.drew ?_ | refine Ext.drewN ?_ _ | refine Ext.alloc ?_ _ | refine Ext.trans ?_ (by with_reducible assumption)))⟩
  · have HK : Hid (placesK size l = 0) := by show _ = _; unfold placesK; rw [if_neg (by omega), hin, if_neg (by decide), hri, if_neg (by decide)]
    have HRI := Lib.hid fun (j : Nat) (x y : Int) (hx : l[j]? = some x) (hy : l[j + 1]? = some y) => rises_get hri hx hy
    clear hx hin hri
    go_enter Tryd.func81, Tryd.ntmps81
    go_wp2_with fail
    go_loop [5] (fun x => ∃ j : Nat, x = .int .i64 j ∧ j ≤ n) (fun x => n - (intOf x).toNat)
    case atStart => exact ⟨0, rfl, Nat.zero_le _⟩
    case round =>
      obtain ⟨j, rfl, hj⟩ := hrel
      by_cases hc : j < n
      · have hz := List.getElem?_eq_getElem (l := l) (i := j) (by rw [HX.out]; omega)
        obtain ⟨ad, rfl, hb, hcell⟩ := hr.getI hz
        obtain ⟨v1, v2⟩ := HIN.out j _ hz
        generalize l[j]'(by rw [HX.out]; omega) = z at *
        go_wp2_with fail
        go_round
        case rel => exact ⟨j + 1, by go_num, by omega⟩
        case measure => simp [intOf]; omega
      · obtain rfl : j = n := by omega
        go_wp2_with fail
        go_loopw [6] (fun x wr => ∃ j' : Nat, x = .int .i64 j' ∧ 1 ≤ j' ∧ Ext w wr) (fun x _ => j - (intOf x).toNat)
        case atStart => exact ⟨1, rfl, by omega, by (repeat (with_reducible first | exact Ext.refl _ | assumption | refine Ext.drew ?_ | refine Ext.drewN ?_ _ | refine Ext.alloc ?_ _ | refine Ext.trans ?_ (by with_reducible assumption)))⟩
        case round =>
          obtain ⟨j', rfl, hj1, hbw⟩ := hrel
          by_cases hc2 : j' < j
          · have k1 : IntKind.i64.wrap ((j' : Int) - 1) = (j' : Int) - 1 := IntWalk.i64_in _ (by omega)
            have k2 := less_one hj1
            have k3 : 0 ≤ (j' : Int) - 1 := by omega
            have k4 : 1 ≤ (j' : Int) := by omega
            have k5 : (j' : Int) - 1 < (j : Int) := by omega
            have k6 : (j' : Int) < (j : Int) := by omega
            have hz := List.getElem?_eq_getElem (l := l) (i := j' - 1) (by rw [HX.out]; omega)
            have hz' := List.getElem?_eq_getElem (l := l) (i := j') (by rw [HX.out]; omega)
            have hlt := HRI.out (j' - 1) _ _ hz (by rw [Nat.sub_add_cancel hj1]; exact hz')
            obtain ⟨ad, rfl, hb, hcell⟩ := (hr.ext hbw).getI hz
            obtain ⟨ad', e, hb', hcell'⟩ := (hr.ext hbw).getI hz'
            obtain rfl : ad = ad' := by injection e
            generalize l[j' - 1]'(by rw [HX.out]; omega) = a at *
            generalize l[j']'(by rw [HX.out]; omega) = b at *
            clear hz hz' e
            go_wp2_with fail
            go_quiet (fail)
            go_wp2_with fail
            go_roundw
            case rel => exact ⟨j' + 1, by go_num, by omega, by (repeat (with_reducible first | exact Ext.refl _ | assumption | refine Ext.drew ?_ | refine Ext.drewN ?_ _ | refine Ext.alloc ?_ _ | refine Ext.trans ?_ (by with_reducible assumption)))⟩
            case measure => simp [intOf]; omega
          · have k6 : (j : Int) ≤ (j' : Int) := by omega
            go_wp2_with fail
            go_ret
            exact ⟨by rw [HK.out]; rfl, by (repeat (with_reducible first | exact Ext.refl _ | assumption | refine Ext.drew ?_ | refine Ext.drewN ?_ _ | refine Ext.alloc ?_ _ | refine Ext.trans ?_ (by with_reducible assumption)))⟩
end Go.Proofs.YtgfkalhpefjenaaDoor
