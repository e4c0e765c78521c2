import Derived.Test.YtgfkalhpefjenaaDoorPeaks2
import Derived.Test.YtgfkalhpefjenaaDoorR1
import Derived.Test.YtgfkalhpefjenaaDoorAs
import Derived.BigRegion
namespace Go.Proofs.YtgfkalhpefjenaaDoor.peaksFull
open Go.RowKit
set_option linter.unusedVariables false
attribute [local go_sem ↓] Go.wp_at_zero Go.wp_at_succ

/-- the first numbers -/
def firsts (k : Nat) : List Int := (List.range k).map Int.ofNat
theorem firsts_len (k : Nat) : (firsts k).length = k := by simp [firsts]
theorem firsts_snoc (k : Nat) : firsts (k + 1) = firsts k ++ [(k : Int)] := by unfold firsts; rw [List.range_succ, List.map_append]; rfl
theorem firsts_allV (k : Nat) (h : k ≤ 1000) : allV (firsts k) = true := by
  unfold allV firsts
  rw [List.all_eq_true]
  intro x hx
  rw [List.mem_map] at hx
  obtain ⟨i, hi, rfl⟩ := hx
  rw [List.mem_range] at hi
  exact vld_mk ⟨by simp, by simp; omega⟩

set_option maxRecDepth 100000 in
set_option maxHeartbeats 4000000 in
theorem walk_yes (n : Nat) (w : World) (hn : n ≤ 210) (hg : ErrG w) :
    Calls Tryd.prog 4 #[.int .i64 n] w fun e w' => e = .returned (.bool true) ∧ Ext w w' := by
  have i1 : (n : Int) ≤ 210 := by omega
  have i2 : (0 : Int) ≤ n := by omega
  go_enter Tryd.func4, Tryd.ntmps4
  go_wp2_with fail
  refine (PNew_pk _).mono ?_
  rintro _ w1 ⟨rfl, hp1, hb1⟩
  obtain ⟨pb, hpb⟩ : ∃ pb, pb = w.heap.size := ⟨_, rfl⟩
  have HP1 : Hid (Pk w1 w.heap.size pb none (firsts 0)) := by rw [hpb]; exact hp1
  rw [← hpb]
  have hpw : w.heap.size ≤ w1.heap.size := hb1.size
  clear hp1 hpb
  go_wp2_with fail
  go_loopw [4] (fun x wr => ∃ (j k : Nat) (r : Option Nat), x = .int .i64 j ∧ j ≤ n ∧ Hid (k = min j 200) ∧ Ext w wr ∧ Hid (Pk wr w.heap.size pb r (firsts k))) (fun x _ => n - (intOf x).toNat)
  case atStart => exact ⟨0, 0, none, rfl, Nat.zero_le _, rfl, hb1, HP1⟩
  case round =>
    obtain ⟨j, k, r, rfl, hj, HK, hbw, HP⟩ := hrel
    by_cases hc : j < n
    · by_cases h2 : j < 200
      · obtain rfl : k = j := by have := HK.out; omega
        have hvk : vld (k : Int) = true := vld_mk ⟨by omega, by omega⟩
        have HX : Hid (appX (firsts k) (k : Int) = firsts (k + 1)) := by
          show _ = _
          rw [appX_yes ⟨hvk, by rw [firsts_len]; exact h2⟩, firsts_snoc]
        have HKK : Hid (appK (firsts k).length (k : Int) = 0) := appK_zero ⟨hvk, by rw [firsts_len]; exact h2⟩
        clear hvk HK
        go_wp2_with fail
        refine (Append_any HP.out hbw.size (firsts_allV k (by omega)) (k : Int)).mono ?_
        rw [HX.out, HKK.out]
        rintro _ w2 ⟨rfl, r2, hp2, ht2, _⟩
        have X2 : Ext w w2 := HP.out.step hbw (Nat.le_refl _) ht2
        have HP2 := Lib.hid hp2
        clear hp2 HX HKK HP
        go_wp2_with fail
        refine (Error_any 0 4 _ (hg.ext X2)).mono ?_
        rintro _ w3 ⟨rfl, hb3⟩
        rw [show errIs 0 4 = false from rfl]
        simp only [errR_0]
        go_wp2_with fail
        go_roundw
        case rel => exact ⟨k + 1, k + 1, r2, by go_num, by omega, by show _ = _; omega, X2.trans hb3, HP2.out.ext hb3⟩
        case measure => simp [intOf]; omega
      · obtain rfl : k = 200 := by have := HK.out; omega
        have HX : Hid (appX (firsts 200) (j : Int) = firsts 200) := appX_no (by rw [firsts_len]; omega)
        have HKK : Hid (appK (firsts 200).length (j : Int) = 4) := by
          show _ = _
          unfold appK
          rw [if_pos (vld_mk ⟨by omega, by omega⟩), if_neg (by rw [firsts_len]; omega)]
        clear HK
        go_wp2_with fail
        refine (Append_any HP.out hbw.size (firsts_allV 200 (by omega)) (j : Int)).mono ?_
        rw [HX.out, HKK.out]
        rintro _ w2 ⟨rfl, r2, hp2, ht2, _⟩
        have X2 : Ext w w2 := HP.out.step hbw (Nat.le_refl _) ht2
        have HP2 := Lib.hid hp2
        clear hp2 HX HKK HP
        go_wp2_with fail
        refine (Error_any 4 4 _ (hg.ext X2)).mono ?_
        rintro _ w3 ⟨rfl, hb3⟩
        rw [show errIs 4 4 = true from rfl]
        go_wp2_with fail
        go_roundw
        case rel => exact ⟨j + 1, 200, r2, by go_num, by omega, by show _ = _; omega, X2.trans hb3, HP2.out.ext hb3⟩
        case measure => simp [intOf]; omega
    · obtain rfl : j = n := by omega
      have hk2 : k ≤ 200 := by have := HK.out; omega
      go_wp2_with fail
      refine (HP.out.size).mono ?_
      rintro _ _ ⟨rfl, rfl⟩
      rw [firsts_len]
      by_cases h2 : j ≤ 200
      · obtain rfl : k = j := by have := HK.out; omega
        go_wp2_with fail
        refine (Parts_any HP.out (by rw [firsts_len]; omega)).mono ?_
        rintro _ w4 ⟨⟨v4, rfl, o4⟩, hb4⟩
        obtain ⟨A4, c4, rfl, hc4, R4⟩ := o4.rd
        have HL : Hid ((partsF (firsts k) 0 (firsts k).length).reverse.length = ones k) := by
          show _ = _
          rw [List.length_reverse, partsF_len _ _ 0 _ (Nat.le_refl _), firsts_len]
        rw [HL.out]
        clear o4 R4
        go_wp2_with fail
        refine (ROnes_any k _ (by omega)).mono ?_
        rintro _ _ ⟨rfl, rfl⟩
        go_wp2_with fail
        go_ret
        exact ⟨rfl, by (repeat (with_reducible first | exact Ext.refl _ | assumption | refine Ext.drew ?_ | refine Ext.drewN ?_ _ | refine Ext.alloc ?_ _ | refine Ext.trans ?_ (by with_reducible assumption)))⟩
      · obtain rfl : k = 200 := by have := HK.out; omega
        have h3 : (200 : Int) < (j : Int) := by omega
        have h4 : ((200 : Int) == (j : Int)) = false := by simp; omega
        go_wp2_with fail
        refine (Parts_any HP.out (by rw [firsts_len]; omega)).mono ?_
        rintro _ w4 ⟨⟨v4, rfl, o4⟩, hb4⟩
        obtain ⟨A4, c4, rfl, hc4, R4⟩ := o4.rd
        have HL : Hid ((partsF (firsts 200) 0 (firsts 200).length).reverse.length = ones 200) := by
          show _ = _
          rw [List.length_reverse, partsF_len _ _ 0 _ (Nat.le_refl _), firsts_len]
        rw [HL.out]
        clear o4 R4
        go_wp2_with fail
        refine (ROnes_any 200 _ (by omega)).mono ?_
        rintro _ _ ⟨rfl, rfl⟩
        go_wp2_with fail
        go_ret
        exact ⟨rfl, by (repeat (with_reducible first | exact Ext.refl _ | assumption | refine Ext.drew ?_ | refine Ext.drewN ?_ _ | refine Ext.alloc ?_ _ | refine Ext.trans ?_ (by with_reducible assumption)))⟩

set_option maxRecDepth 100000 in
theorem walk_no (n : Int) (w : World) (hn : n < 0 ∨ 210 < n) :
    Calls Tryd.prog 4 #[.int .i64 n] w fun e w' => e = .returned (.bool true) ∧ Ext w w' := by
  rcases (show n < 0 ∨ (0 ≤ n ∧ 210 < n) by omega) with h | ⟨h, h'⟩
  all_goals
    clear hn
    go_enter Tryd.func4, Tryd.ntmps4
    go_wp2_with fail
    go_ret
    exact ⟨rfl, Ext.refl _⟩
theorem walk (n : Int) (w : World) (h0 : igood n) (hg : ErrG w) :
    Calls Tryd.prog 4 #[.int .i64 n] w fun e w' => e = .returned (.bool true) ∧ Ext w w' := by
  by_cases h : 0 ≤ n ∧ n ≤ 210
  · obtain ⟨m, rfl⟩ := Int.eq_ofNat_of_zero_le h.1
    exact walk_yes m w (by omega) hg
  · exact walk_no n w (by omega)
end Go.Proofs.YtgfkalhpefjenaaDoor.peaksFull
