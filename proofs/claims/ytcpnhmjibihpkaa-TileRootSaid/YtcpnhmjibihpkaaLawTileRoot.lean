import Derived.Test.YtcpnhmjibihpkaaTRoot2
namespace Go.Proofs.Ytcpnhmjibihpkaa.tileRoot
open Go.RowKit Go.WideShapes
set_option linter.unusedVariables false
attribute [local go_sem ↓] Go.wp_at_zero Go.wp_at_succ

theorem fact_ok : leafsOk [5, 6, 7, 8, 9] := ⟨by decide, by decide⟩
theorem fact_sums : sumsT [5, 6, 7, 8, 9] 0 1 1 = [9] := by
  show [sumAt [5, 6, 7, 8, 9] 0 4] = [9]
  show [ofL [9]] = [9]
  rw [ofL_one]
theorem five_rd (w : World) : Rd (w.alloc (.cells #[.int .i64 5, .int .i64 6, .int .i64 7, .int .i64 8, .int .i64 9] 3)) 1 (some ⟨w.heap.size, 0, none⟩) 5 5 (([5, 6, 7, 8, 9] : List Int).map (Value.int .i64)) :=
  ⟨rfl, Nat.le_refl _, fun _ => ⟨_, rfl, by simp, news_new w 3 _ _ rfl⟩⟩

set_option maxRecDepth 100000 in
set_option maxHeartbeats 4000000 in
theorem walk (A : Option Addr) (n c : Nat) (xs : List Int) (level i : Int) (w : World) (hl : xs.length = n) (hm : c ≤ maxLen) (hr : Rd w 1 A n c (xs.map (Value.int .i64))) (hg : ∀ y ∈ xs, igood y) (h0 : igood level) (h1 : igood i) :
    Calls Try.prog 11 #[.slice A n c, .int .i64 level, .int .i64 i] w fun e w' => e = .returned (.bool true) ∧ Ext w w' := by
  have hlc := hr.2.1
  have hblk := hr.blk
  have HX := Lib.hid hl
  have HF : Hid (sumsT [5, 6, 7, 8, 9] 0 1 1 = [9]) := fact_sums
  clear hg hl h0 h1
  go_enter Try.func11, Try.ntmps11
  go_wp2_with fail
  have BL : Bk (w.alloc (.cells #[.slice A n c] 48)) w.heap.size 48 #[.slice A n c] := Bk.at_ _ _ _ _ rfl
  have E0 : Ext w (w.alloc (.cells #[.slice A n c] 48)) := by (repeat (with_reducible first | exact Ext.refl _ | assumption | refine Ext.drew ?_ | refine Ext.drewN ?_ _ | refine Ext.alloc ?_ _ | refine Ext.trans ?_ (by with_reducible assumption)))
  have hs0 : (w.alloc (.cells #[.slice A n c] 48)).heap.size = w.heap.size + 1 := by simp
  rw [← hs0]
  generalize w.alloc (.cells #[.slice A n c] 48) = w0 at *
  have hfive := five_rd w0
  refine (TSums_ok _ 5 5 [5, 6, 7, 8, 9] 0 1 1 _ (five_rd w0) (by simp [maxLen]) fact_ok (by omega) (by omega) (by omega) (by decide)).mono ?_
  rintro _ w1 ⟨⟨v, rfl, hv⟩, hb1⟩
  unfold OwnN at hv
  rw [HF.out] at hv
  obtain ⟨A1, c1, rfl, hc1, R1, _⟩ := own_rd hv
  obtain ⟨ad1, rfl, _, d1⟩ := R1.getI (j := 0) (z := 9) rfl
  rw [add_zero'] at d1
  rw [show ([9] : List Int).length = 1 from rfl]
  have E1 : Ext w0 w1 := by (repeat (with_reducible first | exact Ext.refl _ | assumption | refine Ext.drew ?_ | refine Ext.drewN ?_ _ | refine Ext.alloc ?_ _ | refine Ext.trans ?_ (by with_reducible assumption)))
  have B1 := BL.ext E1
  have b1 := B1.cell 0
  have R := hr.ext (E0.trans E1)
  have E1w := E0.trans E1
  clear hv R1 hfive hb1 hr
  go_wp2_with fail
  by_cases hk : leafsOk xs
  · have hn : n ≤ 200 := by have := hk.1; rw [HX.out] at this; exact this
    have HK := Lib.hid hk
    clear hk
    refine (TCheck_ok A n c xs _ R hm hn HK.out.2).mono ?_
    rintro _ w' ⟨rfl, rfl⟩
    have hsw : w.heap.size < w1.heap.size := B1.lt
    have BA : Bk (w1.alloc (.cells #[.int .i64 0] 3)) w1.heap.size 3 #[.int .i64 0] := Bk.at_ _ _ _ _ rfl
    have B2 := B1.alloc (.cells #[.int .i64 0] 3)
    have R2 := R.ext (Ext.alloc (Ext.refl w1) (.cells #[.int .i64 0] 3))
    have b2 := B2.cell 0
    go_wp2_with fail
    refine (TRoot_ok w1.heap.size w.heap.size A n c xs _ R2 hm HK.out BA B2 (by omega) (fun h0 ad had => by have := hblk h0 ad had; omega)).mono ?_
    rintro _ w3 ⟨rfl, hg3, BA3⟩
    have hg3' : w1.grownBy w3 (some w1.heap.size) := gb_trans (World.grownBy_alloc w1 _ _) hg3
    have E3 : Ext w w3 := gb_none (gb_row (E1w.gb none) hg3' (fun g hg => by injection hg with hg; omega))
    have B3 := B2.kept hg3 (by simp; omega)
    have R3 := R2.kept hg3 (fun h0 ad had => by have := hblk h0 ad had; simp; omega)
    have b3 := B3.cell 0
    have a3 := BA3.cell 0
    clear b1 b2 R R2 B1 B2 BA hg3 hg3' E1w d1
    go_wp2_with fail
    refine (Root_ok A n c xs _ R3 hm HK.out).mono ?_
    rintro _ w4 ⟨rfl, hb4⟩
    have B4 := B3.ext hb4
    have b4 := B4.cell 0
    have BA4 := BA3.ext hb4
    have a4 := BA4.cell 0
    have R4 := R3.ext hb4
    have E4 := E3.trans hb4
    clear b3 a3 B3 BA3 R3 E3 hb4
    go_wp2_with fail
    refine (All_ok n _ (by omega) (by omega)).mono ?_
    rintro _ w5 ⟨⟨v5, rfl, hv5⟩, hb5⟩
    rw [Int.toNat_natCast] at hv5
    obtain ⟨A5, c5, rfl, hc5, R5, _⟩ := own_rd hv5
    have hal := allT_len n hn 4
    have B5 := B4.ext hb5
    have b5 := B5.cell 0
    have BA5 := BA4.ext hb5
    have a5 := BA5.cell 0
    have RR := R4.ext hb5
    have E5 := E4.trans hb5
    clear hv5 R5 b4 a4 B4 BA4 R4 E4 hb5
    generalize (allT n 4).length = q at *
    go_wp2_with fail
    by_cases hw : 0 ≤ level ∧ level ≤ 3 ∧ 0 ≤ i ∧ i ≤ 199
    · obtain ⟨h0, h1, h2, h3⟩ := hw
      obtain ⟨k, rfl⟩ := Int.eq_ofNat_of_zero_le h0
      obtain ⟨i, rfl⟩ := Int.eq_ofNat_of_zero_le h2
      obtain ⟨p, hp⟩ : ∃ p, p = i / 4 := ⟨_, rfl⟩
      obtain ⟨r, hr⟩ : ∃ r, r = i % 4 := ⟨_, rfl⟩
      have e1 : (i : Int) / 4 = (p : Int) := by omega
      have e2 : (i : Int) % 4 + 1 = ((r + 1 : Nat) : Int) := by omega
      have e3 : (i : Int) % 4 = (r : Int) := by omega
      have hd4 : p * 4 + r = i := by omega
      have hm4 : r < 4 := by omega
      clear hp hr
      refine (Where_ok k i _ (by omega) (by omega)).mono ?_
      rintro _ w6 ⟨rfl, hb6⟩
      rw [e1, e2, e3]
      have E6 := E5.trans hb6
      have B6 := B5.ext hb6
      have b6 := B6.cell 0
      have R6 := RR.ext hb6
      have l6 := B6.lt
      clear b5 a5 B5 BA5 RR E5 hb6 e1 e2 e3 h0 h2
      go_wp2_with fail
      by_cases hf : p * 4 + (r + 1) ≤ n / 4 ^ k
      · have hfit := fits hf (show r < r + 1 by omega)
        rw [hd4] at hfit
        have hsl := sumsT_len xs k (p) (r + 1)
        have hsg : (sumsT xs k (p) (r + 1))[r]? = some (sumAt xs k i) := by
          unfold sumsT
          rw [List.getElem?_map, List.getElem?_range (by omega)]
          show some (sumAt xs k (p * 4 + r)) = _
          rw [hd4]
        refine (TSums_ok A n c xs k (p) (r + 1) _ (R6.ext (by (repeat (with_reducible first | exact Ext.refl _ | assumption | refine Ext.drew ?_ | refine Ext.drewN ?_ _ | refine Ext.alloc ?_ _ | refine Ext.trans ?_ (by with_reducible assumption))))) hm HK.out (by omega) (by omega) (by omega) hf).mono ?_
        rintro _ w7 ⟨⟨v7, rfl, hv7⟩, hb7⟩
        obtain ⟨A7, c7, rfl, hc7, R7, _⟩ := own_rd hv7
        rw [hsl] at R7
        rw [hsl]
        obtain ⟨ad7, rfl, l7, d7⟩ := R7.getI hsg
        have hc77 : r + 1 ≤ c7 := R7.2.1
        have E67 : Ext w6 w7 := by (repeat (with_reducible first | exact Ext.refl _ | assumption | refine Ext.drew ?_ | refine Ext.drewN ?_ _ | refine Ext.alloc ?_ _ | refine Ext.trans ?_ (by with_reducible assumption)))
        have E7 := E6.trans E67
        have B7 := B6.ext E67
        have b7 := B7.cell 0
        have RR := R6.ext E67
        have D7 := Lib.hid d7
        clear hv7 R7 b6 B6 R6 E6 hb7 E67 hsl hsg d7 hf
        go_wp2_with fail
        go_loop [19, 20] (fun a x => ∃ (q j : Nat), a = .int .i64 q ∧ x = .int .i64 j ∧ j ≤ k ∧ q ≤ 64 ∧ Hid (q = 4 ^ j)) (fun _ x => k - (intOf x).toNat)
        case atStart => exact ⟨1, 0, rfl, rfl, Nat.zero_le _, by omega, rfl⟩
        case round =>
          obtain ⟨q, j, rfl, rfl, hj, hq, HQ⟩ := hrel
          by_cases hc : j < k
          · have hq4 : q * 4 ≤ 64 := by
              have := pow4_le (k := j + 1) (by omega)
              rw [Nat.pow_succ] at this
              rw [HQ.out]; exact this
            go_wp2_with fail
            go_round
            case rel => exact ⟨q * 4, j + 1, by go_num, by go_num, by omega, hq4, by show _ = _; rw [HQ.out, Nat.pow_succ]⟩
            case measure => simp [intOf]; omega
          · obtain rfl : j = k := by omega
            have HS : Hid (sumAt xs j i = ofL ((xs.take (i * 4 ^ j + 4 ^ j)).drop (i * 4 ^ j))) := rfl
            rw [← HQ.out] at hfit HS
            have f1 : (i : Int) * (q : Int) = ((i * q : Nat) : Int) := by push_cast; rfl
            have f2 : i * q ≤ 200 := by omega
            have F1 := Lib.hid f1
            have f0 : (i : Int) * (q : Int) ≤ 200 := by rw [f1]; omega
            have f3 : 0 ≤ (i : Int) * (q : Int) := by rw [f1]; omega
            clear f1
            go_wp2_with fail
            rw [F1.out]
            refine (At_ok A n c xs _ _ _ RR hm HK.out (by omega) (by omega) (by omega)).mono ?_
            rintro _ w8 ⟨rfl, hb8⟩
            rw [show (((i * q : Nat) : Int) + (q : Int)).toNat = i * q + q by omega, Int.toNat_natCast, ← HS.out]
            have d8 := (Ext.cell (p := ad7.add r) hb8 (by rw [blk_add]; exact l7)).trans D7.out
            have r1 : (r : Int) < (r : Int) + 1 := by omega
            go_wp2_with fail
            go_ret
            exact ⟨ret_bool (by simp), E7.trans hb8⟩
      · refine (TSums_none A n c xs k (p) (r + 1) _ (R6.ext (by (repeat (with_reducible first | exact Ext.refl _ | assumption | refine Ext.drew ?_ | refine Ext.drewN ?_ _ | refine Ext.alloc ?_ _ | refine Ext.trans ?_ (by with_reducible assumption))))) hm HK.out (by omega) (by omega) (by omega) (by omega)).mono ?_
        rintro _ w7 ⟨rfl, hb7⟩
        simp only [errV]
        go_wp2_with fail
        go_ret
        exact ⟨rfl, by (repeat (with_reducible first | exact Ext.refl _ | assumption | refine Ext.drew ?_ | refine Ext.drewN ?_ _ | refine Ext.alloc ?_ _ | refine Ext.trans ?_ (by with_reducible assumption)))⟩
    · refine (Where_bad level i _ hw).mono ?_
      rintro _ w6 ⟨rfl, hb6⟩
      simp only [errV]
      go_wp2_with fail
      go_ret
      exact ⟨rfl, by (repeat (with_reducible first | exact Ext.refl _ | assumption | refine Ext.drew ?_ | refine Ext.drewN ?_ _ | refine Ext.alloc ?_ _ | refine Ext.trans ?_ (by with_reducible assumption)))⟩
  · refine (TCheck_bad A n c xs _ R hm hk).mono ?_
    rintro _ w' ⟨rfl, rfl⟩
    simp only [errV]
    go_wp2_with fail
    go_ret
    exact ⟨rfl, E1w⟩
end Go.Proofs.Ytcpnhmjibihpkaa.tileRoot
