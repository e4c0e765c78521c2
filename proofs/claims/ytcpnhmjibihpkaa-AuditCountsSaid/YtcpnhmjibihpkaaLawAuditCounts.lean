import Derived.Test.YtcpnhmjibihpkaaAudit
namespace Go.Proofs.Ytcpnhmjibihpkaa.auditCounts
open Go.RowKit
set_option linter.unusedVariables false
attribute [local go_sem ↓] Go.wp_at_zero Go.wp_at_succ

theorem t2 : allT 2 4 = [⟨0, 0, 2⟩] := by
  simp [allT, tilesAt, tileAt, List.range_succ]
  rfl
theorem wide_get {ts : List Tl} {vs : List Value} (h : wideAs ts vs) {j : Nat} (hj : j < vs.length) : ∃ (A : Option Addr) (m c : Nat) (t : Tl), ts[j]? = some t ∧ vs[j]? = some (.slice A m c) ∧ t.wide = (m : Int) := by
  obtain ⟨A, m, c, t, h1, h2, h3⟩ := h.2 j _ (List.getElem?_eq_getElem hj)
  exact ⟨A, m, c, t, h1, by rw [List.getElem?_eq_getElem hj, h2], h3⟩

set_option maxRecDepth 100000 in
set_option maxHeartbeats 2000000 in
theorem walk_yes (n : Nat) (w : World) (hn : n ≤ 60) :
    Calls Try.prog 9 #[.int .i64 n] w fun e w' => e = .returned (.bool true) ∧ Ext w w' := by
  obtain ⟨T, hT⟩ : ∃ T, T = allT n 4 := ⟨_, rfl⟩
  have HT := Lib.hid hT
  have hll := allT_len n (by omega) 4
  rw [← hT] at hll
  clear hT
  go_enter Try.func9, Try.ntmps9
  go_wp2_with fail
  refine (some_any 2 _ (by omega)).mono ?_
  rintro _ w1 ⟨⟨v1, rfl, own1⟩, hb1⟩
  obtain ⟨A1, c1, rfl, hc1, R1, _⟩ := own_rd own1
  go_wp2_with fail
  refine (ATiles_ok A1 2 c1 (someL 2) _ R1 hc1 (someL_ok 2 (by omega))).mono ?_
  rintro _ w2 ⟨⟨v2, vs2, rfl, own2, wide2⟩, hb2⟩
  rw [t2] at own2 wide2
  have hl2 := own_len own2
  obtain ⟨A2, c2, rfl, hc2, R2, _⟩ := own_rd own2
  obtain ⟨A3, m3, c3, t3, g1, g2, g3⟩ := wide_get wide2 (j := 0) (by rw [hl2]; decide)
  obtain rfl : t3 = ⟨0, 0, 2⟩ := by simpa using g1.symm
  have g3' : m3 = 2 := by have : (2 : Int) = (m3 : Int) := g3; omega
  subst g3'
  obtain ⟨ad2, rfl, hbb, hcell⟩ := R2.at_ g2
  rw [add_zero'] at hcell
  have E2 : Ext w w2 := by (repeat (with_reducible first | exact Ext.refl _ | assumption | refine Ext.drew ?_ | refine Ext.drewN ?_ _ | refine Ext.alloc ?_ _ | refine Ext.trans ?_ (by with_reducible assumption)))
  rw [show ([⟨0, 0, 2⟩] : List Tl).length = 1 from rfl]
  clear own1 R1 own2 R2 wide2 hb1 hb2 g1 g2 g3
  go_wp2_with fail
  refine (some_any n _ (by omega)).mono ?_
  rintro _ w3 ⟨⟨v3, rfl, own3⟩, hb3⟩
  obtain ⟨A4, c4, rfl, hc4, R4, _⟩ := own_rd own3
  go_wp2_with fail
  refine (ATiles_ok A4 n c4 (someL n) _ R4 hc4 (someL_ok n (by omega))).mono ?_
  rintro _ w4 ⟨⟨v4, vs, rfl, own4, wide4⟩, hb4⟩
  rw [← HT.out] at own4 wide4
  have hl4 := own_len own4
  obtain ⟨A5, c5, rfl, hc5, R5, _⟩ := own_rd own4
  have E4 : Ext w w4 := E2.trans (by (repeat (with_reducible first | exact Ext.refl _ | assumption | refine Ext.drew ?_ | refine Ext.drewN ?_ _ | refine Ext.alloc ?_ _ | refine Ext.trans ?_ (by with_reducible assumption))))
  clear own3 R4 own4 hb3 hb4 E2
  go_wp2_with fail
  refine (All_ok n _ (by omega) (by omega)).mono ?_
  rintro _ w5 ⟨⟨v5, rfl, own5⟩, hb5⟩
  rw [Int.toNat_natCast, ← HT.out] at own5
  obtain ⟨A6, c6, rfl, hc6, R6, _⟩ := own_rd own5
  have R5' := R5.ext hb5
  have E5 := E4.trans hb5
  have HW := Lib.hid wide4
  clear own5 R5 E4 hb5 wide4
  have hT4 : T.length ≤ 204 := by omega
  have k1 : T.length ≤ c5 := R5'.2.1
  have k2 : T.length ≤ c6 := R6.2.1
  go_wp2_with fail
  go_loopw [9] (fun x wr => ∃ j : Nat, x = .int .i64 j ∧ j ≤ T.length ∧ Ext w5 wr) (fun x _ => T.length - (intOf x).toNat)
  case atStart => exact ⟨0, rfl, Nat.zero_le _, by (repeat (with_reducible first | exact Ext.refl _ | assumption | refine Ext.drew ?_ | refine Ext.drewN ?_ _ | refine Ext.alloc ?_ _ | refine Ext.trans ?_ (by with_reducible assumption)))⟩
  case round =>
    obtain ⟨j, rfl, hj, hbw⟩ := hrel
    by_cases hc : j < T.length
    · obtain ⟨A7, m7, c7, t7, g1, g2, g3⟩ := wide_get HW.out (j := j) (by omega)
      obtain ⟨ad5, rfl, _, d0⟩ := (R5'.ext hbw).at_ g2
      obtain ⟨ad6, rfl, _, e0, e1, e2⟩ := (R6.ext hbw).getT g1
      rw [g3] at e2
      go_wp2_with fail
      go_quiet (fail)
      go_wp2_with fail
      go_roundw
      case rel => exact ⟨j + 1, by go_num, by omega, by (repeat (with_reducible first | exact Ext.refl _ | assumption | refine Ext.drew ?_ | refine Ext.drewN ?_ _ | refine Ext.alloc ?_ _ | refine Ext.trans ?_ (by with_reducible assumption)))⟩
      case measure => simp [intOf]; omega
    · go_wp2_with fail
      go_ret
      exact ⟨rfl, E5.trans (by (repeat (with_reducible first | exact Ext.refl _ | assumption | refine Ext.drew ?_ | refine Ext.drewN ?_ _ | refine Ext.alloc ?_ _ | refine Ext.trans ?_ (by with_reducible assumption))))⟩

set_option maxRecDepth 100000 in
theorem walk_no (n : Int) (w : World) (hn : ¬ (0 ≤ n ∧ n ≤ 60)) :
    Calls Try.prog 9 #[.int .i64 n] w fun e w' => e = .returned (.bool true) ∧ Ext w w' := by
  have h' : n < 0 ∨ (0 ≤ n ∧ 60 < n) := by omega
  clear hn
  rcases h' with h | ⟨h, h'⟩
  all_goals
    go_enter Try.func9, Try.ntmps9
    go_wp2_with fail
    refine (some_any 2 _ (by omega)).mono ?_
    rintro _ w1 ⟨⟨v1, rfl, own1⟩, hb1⟩
    obtain ⟨A1, c1, rfl, hc1, R1, _⟩ := own_rd own1
    go_wp2_with fail
    refine (ATiles_ok A1 2 c1 (someL 2) _ R1 hc1 (someL_ok 2 (by omega))).mono ?_
    rintro _ w2 ⟨⟨v2, vs2, rfl, own2, wide2⟩, hb2⟩
    rw [t2] at own2 wide2
    have hl2 := own_len own2
    obtain ⟨A2, c2, rfl, hc2, R2, _⟩ := own_rd own2
    obtain ⟨A3, m3, c3, t3, g1, g2, g3⟩ := wide_get wide2 (j := 0) (by rw [hl2]; decide)
    obtain rfl : t3 = ⟨0, 0, 2⟩ := by simpa using g1.symm
    have g3' : m3 = 2 := by have : (2 : Int) = (m3 : Int) := g3; omega
    subst g3'
    obtain ⟨ad2, rfl, hbb, hcell⟩ := R2.at_ g2
    rw [add_zero'] at hcell
    have E2 : Ext w w2 := by (repeat (with_reducible first | exact Ext.refl _ | assumption | refine Ext.drew ?_ | refine Ext.drewN ?_ _ | refine Ext.alloc ?_ _ | refine Ext.trans ?_ (by with_reducible assumption)))
    rw [show ([⟨0, 0, 2⟩] : List Tl).length = 1 from rfl]
    clear own1 R1 own2 R2 wide2 hb1 hb2 g1 g2 g3
    go_wp2_with fail
    go_ret
    exact ⟨rfl, by (repeat (with_reducible first | exact Ext.refl _ | assumption | refine Ext.drew ?_ | refine Ext.drewN ?_ _ | refine Ext.alloc ?_ _ | refine Ext.trans ?_ (by with_reducible assumption)))⟩

theorem walk (n : Int) (w : World) (h : igood n) :
    Calls Try.prog 9 #[.int .i64 n] w fun e w' => e = .returned (.bool true) ∧ Ext w w' := by
  by_cases hn : 0 ≤ n ∧ n ≤ 60
  · obtain ⟨n, rfl⟩ := Int.eq_ofNat_of_zero_le hn.1
    exact walk_yes n w (by omega)
  · exact walk_no n w hn
end Go.Proofs.Ytcpnhmjibihpkaa.auditCounts
