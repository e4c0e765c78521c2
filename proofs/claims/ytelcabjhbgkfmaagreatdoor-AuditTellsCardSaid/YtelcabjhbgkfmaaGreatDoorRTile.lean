/- The references' tiles. -/
import Derived.Test.YtelcabjhbgkfmaaGreatDoorR2
import Derived.Test.YtelcabjhbgkfmaaGreatDoorSums
import Derived.Deep.DeepCutAuto
namespace Go.Proofs.YtelcabjhbgkfmaaGreatDoor
open Go.RowKit Go.WideShapes
set_option linter.unusedVariables false
attribute [local go_sem ↓] Go.wp_at_zero Go.wp_at_succ

theorem RPower_any (k : Nat) (w : World) (hk : k ≤ 3) :
    Calls Tryz.prog 82 #[.int .i64 k] w fun e w' => e = .returned (.int .i64 (4 ^ k : Nat)) ∧ w = w' := by
  obtain ⟨r, hr⟩ : ∃ r, r = 4 ^ k := ⟨_, rfl⟩
  rw [← hr]
  have HR := Lib.hid hr
  clear hr
  go_enter Tryz.func82, Tryz.ntmps82
  go_wp2_with fail
  go_loop [3, 4] (fun a x => ∃ (q j : Nat), a = .int .i64 q ∧ x = .int .i64 j ∧ j ≤ k ∧ q ≤ 64 ∧ Hid (q = 4 ^ j)) (fun _ x => k - (intOf x).toNat)
  case atStart => exact ⟨1, 0, rfl, rfl, Nat.zero_le _, by omega, rfl⟩
  case round =>
    obtain ⟨q, j, rfl, rfl, hj, hq, HQ⟩ := hrel
    by_cases hc : j < k
    · have hq4 : q * 4 ≤ 64 := by
        have := pow4_le (k := j + 1) (by omega)
        rw [Nat.pow_succ] at this
        rw [HQ.out]; exact this
      go_wp2_with fail
      go_round
      case rel => exact ⟨q * 4, j + 1, by go_num, by go_num, by omega, hq4, by show _ = _; rw [HQ.out, Nat.pow_succ]⟩
      case measure => simp [intOf]; omega
    · obtain rfl : j = k := by omega
      go_wp2_with fail
      go_ret
      exact ⟨ret_int (by rw [HR.out, HQ.out]), rfl⟩

theorem tileAt_cells (q k j : Nat) (h4 : 4 ≤ q - 4 * j) : (tileAt q k j).cells = [.int .i64 k, .int .i64 j, .int .i64 4] := by
  unfold tileAt Tl.cells
  have : min 4 ((q : Int) - (j : Int) * 4) = 4 := by omega
  rw [this]
theorem tileAt_cells' (q k j l : Nat) (h : q = 4 * j + l) (h4 : l < 4) : (tileAt q k j).cells = [.int .i64 k, .int .i64 j, .int .i64 l] := by
  unfold tileAt Tl.cells
  have : min 4 ((q : Int) - (j : Int) * 4) = l := by omega
  rw [this]

set_option maxRecDepth 100000 in
set_option maxHeartbeats 2000000 in
theorem RTiles_any (s : Nat) (w : World) (hs : s ≤ 200) :
    Calls Tryz.prog 26 #[.int .i64 s] w fun e w' => (∃ v, e = .returned v ∧ OwnT w w' v (allT s 4)) ∧ Ext w w' := by
  have HL := Lib.hid (allT_len s hs)
  obtain ⟨i0, hi0, hz0, hz1, hz2⟩ := info_parts info_tile
  go_enter Tryz.func26, Tryz.ntmps26
  go_wp2_with fail
  go_loopg [3, 4] 4 (fun g v kk wr => ∃ k : Nat, k + g = 4 ∧ kk = .int .i64 k ∧ Hid (OwnT w wr v (allT s k)) ∧ Ext w wr)
  case atStart => exact ⟨0, rfl, rfl, own_nil _ _ _ _, by (repeat (with_reducible first | exact Ext.refl _ | assumption | refine Ext.drew ?_ | refine Ext.drewN ?_ _ | refine Ext.alloc ?_ _ | refine Ext.trans ?_ (by with_reducible assumption)))⟩
  case round =>
    obtain ⟨k, hg, rfl, hown, hbw⟩ := hrel
    by_cases hc : k < 4
    · have hq := div4_le s k
      have hp4 := pow4_le (k := k) (by omega)
      have hp1 : 1 ≤ 4 ^ k := Nat.one_le_pow _ _ (by omega)
      have HQ : Hid ((s : Int) / ((4 ^ k : Nat) : Int) = ((s / 4 ^ k : Nat) : Int)) := (Int.natCast_ediv s (4 ^ k)).symm
      have HE : Hid (allT s (k + 1) = allT s k ++ tilesAt (s / 4 ^ k) k) := rfl
      go_wp2_with fail
      refine (RPower_any k _ (by omega)).mono ?_
      rintro e w' ⟨rfl, rfl⟩
      generalize s / 4 ^ k = q at *
      generalize 4 ^ k = p at *
      have hdv : (s : Int) / (p : Int) = (q : Int) := HQ.out
      go_upto_region 6 with (fail)
      clear hdv
      go_wp2_with fail
      go_loopg [3, 5, 6] ((q + 3) / 4) (fun g2 v l i wr => ∃ j t : Nat, j + g2 = (q + 3) / 4 ∧ i = .int .i64 j ∧ l = .int .i64 t ∧ t = q - 4 * j ∧ Hid (OwnT w wr v (allT s k ++ (tilesAt q k).take j)) ∧ Ext w wr)
      case atStart => exact ⟨0, q, by omega, rfl, by first | rfl | go_num, by omega, by show OwnT _ _ _ _; simpa using hown.out, hbw⟩
      case round =>
        obtain ⟨j, t, hg2, rfl, rfl, ht, hown2, hbw2⟩ := hrel
        by_cases hc2 : 0 < t
        · have hl2 : (allT s k ++ (tilesAt q k).take j).length ≤ 1000 := by
            rw [List.length_append, List.length_take]
            have := HL.out k
            omega
          have HT : Hid (allT s k ++ (tilesAt q k).take (j + 1) = (allT s k ++ (tilesAt q k).take j) ++ [tileAt q k j]) := by show _ = _; rw [tilesAt_take q k j (by omega), List.append_assoc]
          generalize allT s k ++ (tilesAt q k).take j = L at *
          by_cases h4 : t < 4
          · have HC := Lib.hid (tileAt_cells' q k j t (by omega) h4)
            have ht1 : q ≤ 4 * j + t := by omega
            have ht2 : 4 * j + t ≤ q := by omega
            clear ht
            go_wp2_with (at_builtin; refine wpl_app (by rfl) _ _ _ (by rfl) w.heap.size 54 i0 _ 3 24 Tryz.underlying50 hi0 hz0 hz1 hz2 rfl (by omega) _ _ _ (by rfl) ((hown2.out).alloc _) wr.heap.size 1 [.int .i64 k, .int .i64 j, .int .i64 t] rfl (by rfl) (news_new wr _ _ _ rfl) (by rw [← HC.out]; exact oneT _) (by omega) (by omega) (by have := hbw2.size; simp; omega) ?_; intro g cap w3 own3 hext3)
            rw [← HC.out] at own3
            go_roundg ((q + 3) / 4 - (j + 1))
            case measure => omega
            case rel => exact ⟨j + 1, 0, by omega, by go_num, by go_num, by omega, OwnT.mk own3 (by rw [HT.out]; simp) (by rw [HT.out]; simp [List.flatMap_append]), hext3 _ (Nat.le_refl _) (by (repeat (with_reducible first | exact Ext.refl _ | assumption | refine Ext.drew ?_ | refine Ext.drewN ?_ _ | refine Ext.alloc ?_ _ | refine Ext.trans ?_ (by with_reducible assumption))))⟩
          · have HC := Lib.hid (tileAt_cells q k j (by omega))
            have ht1 : q ≤ 4 * j + t := by omega
            have ht2 : 4 * j + t ≤ q := by omega
            clear ht
            go_wp2_with (at_builtin; refine wpl_app (by rfl) _ _ _ (by rfl) w.heap.size 54 i0 _ 3 24 Tryz.underlying50 hi0 hz0 hz1 hz2 rfl (by omega) _ _ _ (by rfl) ((hown2.out).alloc _) wr.heap.size 1 [.int .i64 k, .int .i64 j, .int .i64 4] rfl (by rfl) (news_new wr _ _ _ rfl) (by rw [← HC.out]; exact oneT _) (by omega) (by omega) (by have := hbw2.size; simp; omega) ?_; intro g cap w3 own3 hext3)
            rw [← HC.out] at own3
            go_roundg ((q + 3) / 4 - (j + 1))
            case measure => omega
            case rel => exact ⟨j + 1, t - 4, by omega, by go_num, by go_num, by omega, OwnT.mk own3 (by rw [HT.out]; simp) (by rw [HT.out]; simp [List.flatMap_append]), hext3 _ (Nat.le_refl _) (by (repeat (with_reducible first | exact Ext.refl _ | assumption | refine Ext.drew ?_ | refine Ext.drewN ?_ _ | refine Ext.alloc ?_ _ | refine Ext.trans ?_ (by with_reducible assumption))))⟩
        · obtain rfl : t = 0 := by omega
          have hq0 : q ≤ 4 * j := by omega
          clear ht
          go_wp2_with fail
          go_roundg (3 - k)
          case measure => omega
          case rel => exact ⟨k + 1, by omega, by go_num, (by have := hown2.out; rw [tilesAt_all q k j (by omega)] at this; show OwnT _ _ _ _; rw [HE.out]; exact this), hbw2⟩
    · obtain rfl : k = 4 := by omega
      go_wp2_with fail
      go_ret
      exact ⟨⟨_, rfl, hown.out⟩, hbw⟩

set_option maxRecDepth 100000 in
theorem Tiles_same (A A' : Option Addr) (n c c' : Nat) (ts : List Tl) (w : World) (hr : Rd w 3 A n c (ts.flatMap Tl.cells)) (hr' : Rd w 3 A' n c' (ts.flatMap Tl.cells)) (hn : ts.length = n) (hm : n ≤ 1000) :
    Calls Tryz.prog 32 #[.slice A n c, .slice A' n c'] w fun e w' => e = .returned (.bool true) ∧ Ext w w' := by
  have HX := Lib.hid hn
  have hl := hr.2.1
  have hl' := hr'.2.1
  clear hn
  go_enter Tryz.func32, Tryz.ntmps32
  go_wp2_with fail
  go_loopw [5] (fun x wr => ∃ j : Nat, x = .int .i64 j ∧ j ≤ n ∧ Ext w wr) (fun x _ => n - (intOf x).toNat)
  case atStart => exact ⟨0, rfl, Nat.zero_le _, by (repeat (with_reducible first | exact Ext.refl _ | assumption | refine Ext.drew ?_ | refine Ext.drewN ?_ _ | refine Ext.alloc ?_ _ | refine Ext.trans ?_ (by with_reducible assumption)))⟩
  case round =>
    obtain ⟨j, rfl, hj, hbw⟩ := hrel
    by_cases hc : j < n
    · have hgj := List.getElem?_eq_getElem (l := ts) (i := j) (by rw [HX.out]; exact hc)
      obtain ⟨ad, rfl, hb, c0, c1, c2⟩ := (hr.ext hbw).getT hgj
      obtain ⟨ad', rfl, hb', c0', c1', c2'⟩ := (hr'.ext hbw).getT hgj
      generalize ts[j]'(by rw [HX.out]; exact hc) = e at *
      have hcN : (j : Int) < (n : Int) := by omega
      go_wp2_with fail
      go_quiet (fail)
      go_wp2_with fail
      go_roundw
      case rel => exact ⟨j + 1, by go_num, by omega, by (repeat (with_reducible first | exact Ext.refl _ | assumption | refine Ext.drew ?_ | refine Ext.drewN ?_ _ | refine Ext.alloc ?_ _ | refine Ext.trans ?_ (by with_reducible assumption)))⟩
      case measure => simp [intOf]; omega
    · go_wp2_with fail
      go_ret
      exact ⟨rfl, by (repeat (with_reducible first | exact Ext.refl _ | assumption | refine Ext.drew ?_ | refine Ext.drewN ?_ _ | refine Ext.alloc ?_ _ | refine Ext.trans ?_ (by with_reducible assumption)))⟩

set_option maxRecDepth 100000 in
set_option maxHeartbeats 2000000 in
theorem RTileSums_any (A : Option Addr) (n c : Nat) (xs : List Int) (k i m : Nat) (w : World) (hr : Rd w 1 A n c (xs.map (Value.int .i64))) (hm : c ≤ maxLen) (hk : leafsOk xs) (hk3 : k ≤ 3) (hm4 : m ≤ 4) (hf : i * 4 + m ≤ n / 4 ^ k) :
    Calls Tryz.prog 27 #[.slice A n c, .agg #[.int .i64 k, .int .i64 i, .int .i64 m]] w fun e w' => (∃ v, e = .returned v ∧ OwnN w w' v (sumsT xs k i m)) ∧ Ext w w' := by
  have hx := hr.lenI
  have hn : n ≤ 200 := by have := hk.1; omega
  have hl := hr.2.1
  have hi : i ≤ 200 := by have := div4_le n k; omega
  have HX := Lib.hid hx
  clear hx
  obtain ⟨i0, hi0, hz0, hz1, hz2⟩ := info_parts info_int'
  obtain ⟨wb, hwb⟩ : ∃ wb, wb = w.alloc (.cells #[.int .i64 k, .int .i64 i, .int .i64 m] 54) := ⟨_, rfl⟩
  have B : Bk wb w.heap.size 54 #[.int .i64 k, .int .i64 i, .int .i64 m] := by rw [hwb]; exact Bk.at_ _ _ _ _ rfl
  have EB : Ext w wb := by rw [hwb]; exact Ext.alloc (Ext.refl w) _
  have hq4 := pow4_le hk3
  have hq1 : 1 ≤ 4 ^ k := Nat.one_le_pow _ _ (by omega)
  have q0 := B.cell 0
  go_enter Tryz.func27, Tryz.ntmps27
  go_wp2_with fail
  rw [← hwb]
  clear hwb
  refine (RPower_any k _ hk3).mono ?_
  rintro e w' ⟨rfl, rfl⟩
  obtain ⟨q, hq⟩ : ∃ q, q = 4 ^ k := ⟨_, rfl⟩
  rw [← hq] at hq4 hq1 ⊢
  have HQ := Lib.hid hq
  clear hq q0
  go_wp2_with fail
  go_loopw [5, 7] (fun v x wr => ∃ j' : Nat, x = .int .i64 j' ∧ j' ≤ m ∧ Hid (OwnN wb wr v (sumsT xs k i j')) ∧ Ext wb wr) (fun _ x _ => m - (intOf x).toNat)
  case atStart => exact ⟨0, rfl, Nat.zero_le _, own_nil _ _ _ _, by (repeat (with_reducible first | exact Ext.refl _ | assumption | refine Ext.drew ?_ | refine Ext.drewN ?_ _ | refine Ext.alloc ?_ _ | refine Ext.trans ?_ (by with_reducible assumption)))⟩
  case round =>
    obtain ⟨j', rfl, hj', hown, hbw⟩ := hrel
    have BR := B.ext hbw
    have r1 := BR.cell 1
    have r2 := BR.cell 2
    by_cases hc2 : j' < m
    · have hfit := fits hf hc2
      have HS : Hid (sumsT xs k i (j' + 1) = sumsT xs k i j' ++ [ofL ((xs.take ((i * 4 + j') * 4 ^ k + 4 ^ k)).drop ((i * 4 + j') * 4 ^ k))]) := sumsT_snoc _ _ _ _
      have e1 : ((4 : Int) * (i : Int) + (j' : Int)) * (q : Int) = (((i * 4 + j') * 4 ^ k : Nat) : Int) := by rw [HQ.out]; push_cast; congr 1; omega
      rw [← HQ.out] at hfit HS e1
      have hlen := sumsT_len xs k i j'
      generalize (i * 4 + j') * q = f at *
      generalize sumsT xs k i j' = L at *
      have hcf : c ≠ f := by omega
      have hR := Rd_part (hr.ext (EB.trans hbw)) (i := f) (j := f + q) (by omega) (by omega)
      rw [if_neg hcf, Nat.add_sub_cancel_left] at hR
      have hva := allV_drop (allV_take hk.2 (f + q)) f
      have f1 : (0 : Int) ≤ (f : Int) := by omega
      have f2 : (f : Int) + (q : Int) ≤ (c : Int) := by omega
      have f3 : (f : Int) ≤ (c : Int) := by omega
      have f4 : (f : Int) ≤ (f : Int) + (q : Int) := by omega
      have f5 : f + q ≤ 200 := by omega
      have f6 : (f : Int) + (q : Int) - (f : Int) = (q : Int) := by omega
      have hbw0 := hbw.size
      go_wp2_with fail
      refine (RRoot_any q _ q (c - f) _ _ (Nat.le_refl _) hR (by omega) (by omega) hva).mono ?_
      rintro e w1 ⟨rfl, hb1⟩
      generalize ofL ((xs.take (f + q)).drop f) = z at *
      have hl2 : L.length ≤ 4 := by omega
      have hbw1 := hb1.size
      clear hlen r1 r2
      go_wp2_with (at_builtin; refine wpl_app (by rfl) _ _ _ (by rfl) wb.heap.size 3 i0 _ 1 8 Tryz.underlying46 hi0 hz0 hz1 hz2 rfl (by omega) u5 _ _ (by rfl) ((own_ext hown.out hb1).alloc _) w1.heap.size 1 [.int .i64 z] rfl (by rfl) (news_new w1 _ _ _ rfl) (oneN _) (by omega) (by omega) (by simp; omega) ?_; intro g cap w3 own3 hext3)
      go_roundw
      case rel => exact ⟨j' + 1, by go_num, by omega, OwnN.mk own3 (by rw [HS.out]; simp) (by rw [HS.out]; simp), hext3 _ (Nat.le_refl _) (by (repeat (with_reducible first | exact Ext.refl _ | assumption | refine Ext.drew ?_ | refine Ext.drewN ?_ _ | refine Ext.alloc ?_ _ | refine Ext.trans ?_ (by with_reducible assumption))))⟩
      case measure => simp [intOf]; omega
    · obtain rfl : j' = m := by omega
      go_wp2_with fail
      go_ret
      exact ⟨⟨_, rfl, own_lower hown.out EB.size⟩, EB.trans (by (repeat (with_reducible first | exact Ext.refl _ | assumption | refine Ext.drew ?_ | refine Ext.drewN ?_ _ | refine Ext.alloc ?_ _ | refine Ext.trans ?_ (by with_reducible assumption))))⟩
end Go.Proofs.YtelcabjhbgkfmaaGreatDoor
