/- The references' tiles. -/
import Derived.Test.YtfccbjfiionepaaGreatDoorJServeTells16
import Derived.Deep.DeepCutAuto
import Derived.Test.YtfccbjfiionepaaGreatDoorJServeTells13
import Derived.Test.YtfccbjfiionepaaGreatDoorJServeTells12
namespace Go.Proofs.YtfccbjfiionepaaGreatDoor
open Go.RowKit Go.WideShapes
set_option linter.unusedVariables false
attribute [local go_sem ↓] Go.wp_at_zero Go.wp_at_succ

theorem RPower_any (k : Nat) (w : World) (hk : k ≤ 3) :
    Calls Tryz.prog 110 #[.int .i64 k] w fun e w' => e = .returned (.int .i64 (4 ^ k : Nat)) ∧ w = w' := by
  obtain ⟨r, hr⟩ : ∃ r, r = 4 ^ k := ⟨_, rfl⟩
  rw [← hr]
  have HR := Lib.hid hr
  clear hr
  go_enter Tryz.func110, Tryz.ntmps110
  go_wp2_with fail
  go_loop [3, 4] (fun a x => ∃ (q j : Nat), a = .int .i64 q ∧ x = .int .i64 j ∧ j ≤ k ∧ q ≤ 64 ∧ Hid (q = 4 ^ j)) (fun _ x => k - (intOf x).toNat)
  case atStart => exact ⟨1, 0, rfl, rfl, Nat.zero_le _, by omega, rfl⟩
  case round =>
    obtain ⟨q, j, rfl, rfl, hj, hq, HQ⟩ := hrel
    by_cases hc : j < k
    · have hq4 : q * 4 ≤ 64 := by
        have := pow4_le (k := j + 1) (by omega)
        rw [Nat.pow_succ] at this
        rw [HQ.out]; exact this
      go_wp2_with fail
      go_round
      case rel => exact ⟨q * 4, j + 1, by go_num, by go_num, by omega, hq4, by show _ = _; rw [HQ.out, Nat.pow_succ]⟩
      case measure => simp [intOf]; omega
    · obtain rfl : j = k := by omega
      go_wp2_with fail
      go_ret
      exact ⟨ret_int (by rw [HR.out, HQ.out]), rfl⟩

theorem tileAt_cells (q k j : Nat) (h4 : 4 ≤ q - 4 * j) : (tileAt q k j).cells = [.int .i64 k, .int .i64 j, .int .i64 4] := by
  unfold tileAt Tl.cells
  have : min 4 ((q : Int) - (j : Int) * 4) = 4 := by omega
  rw [this]
theorem tileAt_cells' (q k j l : Nat) (h : q = 4 * j + l) (h4 : l < 4) : (tileAt q k j).cells = [.int .i64 k, .int .i64 j, .int .i64 l] := by
  unfold tileAt Tl.cells
  have : min 4 ((q : Int) - (j : Int) * 4) = l := by omega
  rw [this]

set_option maxRecDepth 100000 in
set_option maxHeartbeats 2000000 in
theorem RTiles_any (s : Nat) (w : World) (hs : s ≤ 200) :
    Calls Tryz.prog 74 #[.int .i64 s] w fun e w' => (∃ v, e = .returned v ∧ OwnT w w' v (allT s 4)) ∧ Ext w w' := by
  have HL := Lib.hid (allT_len s hs)
  obtain ⟨i0, hi0, hz0, hz1, hz2⟩ := info_parts info_tile
  go_enter Tryz.func74, Tryz.ntmps74
  go_wp2_with fail
  go_loopg [3, 4] 4 (fun g v kk wr => ∃ k : Nat, k + g = 4 ∧ kk = .int .i64 k ∧ Hid (OwnT w wr v (allT s k)) ∧ Ext w wr)
  case atStart => exact ⟨0, rfl, rfl, own_nil _ _ _ _, by (repeat (with_reducible first | exact Ext.refl _ | assumption | refine Ext.drew ?_ | refine Ext.drewN ?_ _ | refine Ext.alloc ?_ _ | refine Ext.trans ?_ (by with_reducible assumption)))⟩
  case round =>
    obtain ⟨k, hg, rfl, hown, hbw⟩ := hrel
    by_cases hc : k < 4
    · have hq := div4_le s k
      have hp4 := pow4_le (k := k) (by omega)
      have hp1 : 1 ≤ 4 ^ k := Nat.one_le_pow _ _ (by omega)
      have HQ : Hid ((s : Int) / ((4 ^ k : Nat) : Int) = ((s / 4 ^ k : Nat) : Int)) := (Int.natCast_ediv s (4 ^ k)).symm
      have HE : Hid (allT s (k + 1) = allT s k ++ tilesAt (s / 4 ^ k) k) := rfl
      go_wp2_with fail
      refine (RPower_any k _ (by omega)).mono ?_
      rintro e w' ⟨rfl, rfl⟩
      generalize s / 4 ^ k = q at *
      generalize 4 ^ k = p at *
      have hdv : (s : Int) / (p : Int) = (q : Int) := HQ.out
      go_upto_region 6 with (fail)
      clear hdv
      go_wp2_with fail
      go_loopg [3, 5, 6] ((q + 3) / 4) (fun g2 v l i wr => ∃ j t : Nat, j + g2 = (q + 3) / 4 ∧ i = .int .i64 j ∧ l = .int .i64 t ∧ t = q - 4 * j ∧ Hid (OwnT w wr v (allT s k ++ (tilesAt q k).take j)) ∧ Ext w wr)
      case atStart => exact ⟨0, q, by omega, rfl, by first | rfl | go_num, by omega, by show OwnT _ _ _ _; simpa using hown.out, hbw⟩
      case round =>
        obtain ⟨j, t, hg2, rfl, rfl, ht, hown2, hbw2⟩ := hrel
        by_cases hc2 : 0 < t
        · have hl2 : (allT s k ++ (tilesAt q k).take j).length ≤ 1000 := by
            rw [List.length_append, List.length_take]
            have := HL.out k
            omega
          have HT : Hid (allT s k ++ (tilesAt q k).take (j + 1) = (allT s k ++ (tilesAt q k).take j) ++ [tileAt q k j]) := by show _ = _; rw [tilesAt_take q k j (by omega), List.append_assoc]
          generalize allT s k ++ (tilesAt q k).take j = L at *
          by_cases h4 : t < 4
          · have HC := Lib.hid (tileAt_cells' q k j t (by omega) h4)
            have ht1 : q ≤ 4 * j + t := by omega
            have ht2 : 4 * j + t ≤ q := by omega
            clear ht
            go_wp2_with (at_builtin; refine wpl_app (by rfl) _ _ _ (by rfl) w.heap.size 36 i0 _ 3 24 Tryz.underlying85 hi0 hz0 hz1 hz2 rfl (by omega) _ _ _ (by rfl) ((hown2.out).alloc _) wr.heap.size 1 [.int .i64 k, .int .i64 j, .int .i64 t] rfl (by rfl) (news_new wr _ _ _ rfl) (by rw [← HC.out]; exact oneT _) (by omega) (by omega) (by have := hbw2.size; simp; omega) ?_; intro g cap w3 own3 hext3)
            rw [← HC.out] at own3
            go_roundg ((q + 3) / 4 - (j + 1))
            case measure => omega
            case rel => exact ⟨j + 1, 0, by omega, by go_num, by go_num, by omega, OwnT.mk own3 (by rw [HT.out]; simp) (by rw [HT.out]; simp [List.flatMap_append]), hext3 _ (Nat.le_refl _) (by (repeat (with_reducible first | exact Ext.refl _ | assumption | refine Ext.drew ?_ | refine Ext.drewN ?_ _ | refine Ext.alloc ?_ _ | refine Ext.trans ?_ (by with_reducible assumption))))⟩
          · have HC := Lib.hid (tileAt_cells q k j (by omega))
            have ht1 : q ≤ 4 * j + t := by omega
            have ht2 : 4 * j + t ≤ q := by omega
            clear ht
            go_wp2_with (at_builtin; refine wpl_app (by rfl) _ _ _ (by rfl) w.heap.size 36 i0 _ 3 24 Tryz.underlying85 hi0 hz0 hz1 hz2 rfl (by omega) _ _ _ (by rfl) ((hown2.out).alloc _) wr.heap.size 1 [.int .i64 k, .int .i64 j, .int .i64 4] rfl (by rfl) (news_new wr _ _ _ rfl) (by rw [← HC.out]; exact oneT _) (by omega) (by omega) (by have := hbw2.size; simp; omega) ?_; intro g cap w3 own3 hext3)
            rw [← HC.out] at own3
            go_roundg ((q + 3) / 4 - (j + 1))
            case measure => omega
            case rel => exact ⟨j + 1, t - 4, by omega, by go_num, by go_num, by omega, OwnT.mk own3 (by rw [HT.out]; simp) (by rw [HT.out]; simp [List.flatMap_append]), hext3 _ (Nat.le_refl _) (by (repeat (with_reducible first | exact Ext.refl _ | assumption | refine Ext.drew ?_ | refine Ext.drewN ?_ _ | refine Ext.alloc ?_ _ | refine Ext.trans ?_ (by with_reducible assumption))))⟩
        · obtain rfl : t = 0 := by omega
          have hq0 : q ≤ 4 * j := by omega
          clear ht
          go_wp2_with fail
          go_roundg (3 - k)
          case measure => omega
          case rel => exact ⟨k + 1, by omega, by go_num, (by have := hown2.out; rw [tilesAt_all q k j (by omega)] at this; show OwnT _ _ _ _; rw [HE.out]; exact this), hbw2⟩
    · obtain rfl : k = 4 := by omega
      go_wp2_with fail
      go_ret
      exact ⟨⟨_, rfl, hown.out⟩, hbw⟩

set_option maxRecDepth 100000 in
set_option maxHeartbeats 2000000 in
theorem RTileSums_any (A : Option Addr) (n c : Nat) (xs : List Int) (k i m : Nat) (w : World) (hr : Rd w 1 A n c (xs.map (Value.int .i64))) (hm : c ≤ maxLen) (hk : leafsOk xs) (hk3 : k ≤ 3) (hm4 : m ≤ 4) (hf : i * 4 + m ≤ n / 4 ^ k) :
    Calls Tryz.prog 75 #[.slice A n c, .agg #[.int .i64 k, .int .i64 i, .int .i64 m]] w fun e w' => (∃ v, e = .returned v ∧ OwnN w w' v (sumsT xs k i m)) ∧ Ext w w' := by
  have hx := hr.lenI
  have hn : n ≤ 200 := by have := hk.1; omega
  have hl := hr.2.1
  have hi : i ≤ 200 := by have := div4_le n k; omega
  have HX := Lib.hid hx
  clear hx
  obtain ⟨i0, hi0, hz0, hz1, hz2⟩ := info_parts info_int'
  obtain ⟨wb, hwb⟩ : ∃ wb, wb = w.alloc (.cells #[.int .i64 k, .int .i64 i, .int .i64 m] 36) := ⟨_, rfl⟩
  have B : Bk wb w.heap.size 36 #[.int .i64 k, .int .i64 i, .int .i64 m] := by rw [hwb]; exact Bk.at_ _ _ _ _ rfl
  have EB : Ext w wb := by rw [hwb]; exact Ext.alloc (Ext.refl w) _
  have hq4 := pow4_le hk3
  have hq1 : 1 ≤ 4 ^ k := Nat.one_le_pow _ _ (by omega)
  have q0 := B.cell 0
  go_enter Tryz.func75, Tryz.ntmps75
  go_wp2_with fail
  rw [← hwb]
  clear hwb
  refine (RPower_any k _ hk3).mono ?_
  rintro e w' ⟨rfl, rfl⟩
  obtain ⟨q, hq⟩ : ∃ q, q = 4 ^ k := ⟨_, rfl⟩
  rw [← hq] at hq4 hq1 ⊢
  have HQ := Lib.hid hq
  clear hq q0
  go_wp2_with fail
  go_loopw [5, 7] (fun v x wr => ∃ j' : Nat, x = .int .i64 j' ∧ j' ≤ m ∧ Hid (OwnN wb wr v (sumsT xs k i j')) ∧ Ext wb wr) (fun _ x _ => m - (intOf x).toNat)
  case atStart => exact ⟨0, rfl, Nat.zero_le _, own_nil _ _ _ _, by (repeat (with_reducible first | exact Ext.refl _ | assumption | refine Ext.drew ?_ | refine Ext.drewN ?_ _ | refine Ext.alloc ?_ _ | refine Ext.trans ?_ (by with_reducible assumption)))⟩
  case round =>
    obtain ⟨j', rfl, hj', hown, hbw⟩ := hrel
    have BR := B.ext hbw
    have r1 := BR.cell 1
    have r2 := BR.cell 2
    by_cases hc2 : j' < m
    · have hfit := fits hf hc2
      have HS : Hid (sumsT xs k i (j' + 1) = sumsT xs k i j' ++ [ofL ((xs.take ((i * 4 + j') * 4 ^ k + 4 ^ k)).drop ((i * 4 + j') * 4 ^ k))]) := sumsT_snoc _ _ _ _
      have e1 : ((4 : Int) * (i : Int) + (j' : Int)) * (q : Int) = (((i * 4 + j') * 4 ^ k : Nat) : Int) := by rw [HQ.out]; push_cast; congr 1; omega
      rw [← HQ.out] at hfit HS e1
      have hlen := sumsT_len xs k i j'
      generalize (i * 4 + j') * q = f at *
      generalize sumsT xs k i j' = L at *
      have hcf : c ≠ f := by omega
      have hR := Rd_part (hr.ext (EB.trans hbw)) (i := f) (j := f + q) (by omega) (by omega)
      rw [if_neg hcf, Nat.add_sub_cancel_left] at hR
      have hva := allV_drop (allV_take hk.2 (f + q)) f
      have f1 : (0 : Int) ≤ (f : Int) := by omega
      have f2 : (f : Int) + (q : Int) ≤ (c : Int) := by omega
      have f3 : (f : Int) ≤ (c : Int) := by omega
      have f4 : (f : Int) ≤ (f : Int) + (q : Int) := by omega
      have f5 : f + q ≤ 200 := by omega
      have f6 : (f : Int) + (q : Int) - (f : Int) = (q : Int) := by omega
      have hbw0 := hbw.size
      go_wp2_with fail
      refine (RRoot_any q _ q (c - f) _ _ (Nat.le_refl _) hR (by omega) (by omega) hva).mono ?_
      rintro e w1 ⟨rfl, hb1⟩
      generalize ofL ((xs.take (f + q)).drop f) = z at *
      have hl2 : L.length ≤ 4 := by omega
      have hbw1 := hb1.size
      clear hlen r1 r2
      go_wp2_with (at_builtin; refine wpl_app (by rfl) _ _ _ (by rfl) wb.heap.size 3 i0 _ 1 8 Tryz.underlying24 hi0 hz0 hz1 hz2 rfl (by omega) u5 _ _ (by rfl) ((own_ext hown.out hb1).alloc _) w1.heap.size 1 [.int .i64 z] rfl (by rfl) (news_new w1 _ _ _ rfl) (oneN _) (by omega) (by omega) (by simp; omega) ?_; intro g cap w3 own3 hext3)
      go_roundw
      case rel => exact ⟨j' + 1, by go_num, by omega, OwnN.mk own3 (by rw [HS.out]; simp) (by rw [HS.out]; simp), hext3 _ (Nat.le_refl _) (by (repeat (with_reducible first | exact Ext.refl _ | assumption | refine Ext.drew ?_ | refine Ext.drewN ?_ _ | refine Ext.alloc ?_ _ | refine Ext.trans ?_ (by with_reducible assumption))))⟩
      case measure => simp [intOf]; omega
    · obtain rfl : j' = m := by omega
      go_wp2_with fail
      go_ret
      exact ⟨⟨_, rfl, own_lower hown.out EB.size⟩, EB.trans (by (repeat (with_reducible first | exact Ext.refl _ | assumption | refine Ext.drew ?_ | refine Ext.drewN ?_ _ | refine Ext.alloc ?_ _ | refine Ext.trans ?_ (by with_reducible assumption))))⟩
end Go.Proofs.YtfccbjfiionepaaGreatDoor

/- tile.All, tile.Sums, tile.Where: total; which tiles there are. -/
namespace Go.Proofs.YtfccbjfiionepaaGreatDoor
open Go.RowKit
set_option linter.unusedVariables false

def allK (s : Int) : Int := if 0 ≤ s ∧ s ≤ 200 then 0 else 1
def allW (s : Int) : List Tl := if 0 ≤ s ∧ s ≤ 200 then allT s.toNat 4 else []
theorem All_any (s : Int) (w : World) :
    Calls Tryz.prog 41 #[.int .i64 s] w fun e w' => (∃ v, e = .returned (.tuple #[v, errR (allK s)]) ∧ OwnT w w' v (allW s)) ∧ Ext w w' := by
  by_cases h : 0 ≤ s ∧ s ≤ 200
  · have hk : allK s = 0 := if_pos h
    have hw : allW s = allT s.toNat 4 := if_pos h
    rw [hk, hw]
    exact All_ok s w h.1 h.2
  · have hk : allK s = 1 := if_neg h
    have hw : allW s = [] := if_neg h
    rw [hk, hw]
    exact (All_bad s w h).mono fun e w' hh => ⟨⟨_, hh.1, own_nil _ _ _ _⟩, hh.2⟩
theorem allW_len (s : Int) : (allW s).length ≤ 204 := by
  unfold allW
  split
  · rename_i h
    exact allT_len s.toNat (by omega) 4
  · simp
def tlOk (t : Tl) : Prop := 0 ≤ t.level ∧ t.level ≤ 3 ∧ 0 ≤ t.index ∧ 1 ≤ t.wide ∧ t.wide ≤ 4
instance (t : Tl) : Decidable (tlOk t) := by unfold tlOk; infer_instance
def tlIn (n : Nat) (t : Tl) : Prop := t.index.toNat * 4 + t.wide.toNat ≤ n / 4 ^ t.level.toNat
instance (n : Nat) (t : Tl) : Decidable (tlIn n t) := by unfold tlIn; infer_instance
def tsK (xs : List Int) (t : Tl) : Int := if leafsK xs ≠ 0 then leafsK xs else if ¬ tlOk t then 1 else if tlIn xs.length t then 0 else 5
def tsV (xs : List Int) (t : Tl) : List Int := if tsK xs t = 0 then sumsT xs t.level.toNat t.index.toNat t.wide.toNat else []
theorem leafsK_ne {xs : List Int} (h : ¬ leafsOk xs) : leafsK xs = leafsErr xs := by
  unfold leafsK leafsErr
  by_cases h2 : 200 < xs.length
  · rw [if_pos h2, if_pos h2]
  · rw [if_neg h2, if_neg h2]
    by_cases h3 : allV xs = true
    · exact absurd ⟨by omega, h3⟩ h
    · rw [if_neg h3]
theorem TSums_tot (A : Option Addr) (n c : Nat) (xs : List Int) (t : Tl) (w : World) (hr : Rd w 1 A n c (xs.map (Value.int .i64))) (hm : c ≤ maxLen) :
    Calls Tryz.prog 13 #[.slice A n c, .agg t.cells.toArray] w fun e w' => (∃ v, e = .returned (.tuple #[v, errR (tsK xs t)]) ∧ OwnN w w' v (tsV xs t)) ∧ Ext w w' := by
  have hx := hr.lenI
  obtain ⟨level, index, wide⟩ := t
  by_cases hk : leafsOk xs
  · have k0 := leafsK_ok hk
    by_cases ht : tlOk ⟨level, index, wide⟩
    · have ht' := ht
      obtain ⟨t1, t2, t3, t4, t5⟩ := ht
      simp only at t1 t2 t3 t4 t5
      obtain ⟨k, rfl⟩ := Int.eq_ofNat_of_zero_le t1
      obtain ⟨i, rfl⟩ := Int.eq_ofNat_of_zero_le t3
      obtain ⟨m, rfl⟩ := Int.eq_ofNat_of_zero_le (show 0 ≤ wide by omega)
      by_cases hin : tlIn xs.length ⟨(k : Int), (i : Int), (m : Int)⟩
      · have e1 : tsK xs ⟨(k : Int), (i : Int), (m : Int)⟩ = 0 := by unfold tsK; rw [if_neg (by rw [k0]; simp), if_neg (by simp [ht']), if_pos hin]
        have e2 : tsV xs ⟨(k : Int), (i : Int), (m : Int)⟩ = sumsT xs k i m := by unfold tsV; rw [if_pos e1]; rfl
        rw [e1, e2]
        exact TSums_ok A n c xs k i m w hr hm hk (by omega) (by omega) (by omega) (by rw [← hx]; exact hin)
      · have e1 : tsK xs ⟨(k : Int), (i : Int), (m : Int)⟩ = 5 := by unfold tsK; rw [if_neg (by rw [k0]; simp), if_neg (by simp [ht']), if_neg hin]
        have e2 : tsV xs ⟨(k : Int), (i : Int), (m : Int)⟩ = [] := by unfold tsV; rw [if_neg (by rw [e1]; decide)]
        rw [e1, e2]
        exact (TSums_none A n c xs k i m w hr hm hk (by omega) (by omega) (by omega) (by rw [← hx]; exact Nat.lt_of_not_le hin)).mono fun e w' hh => ⟨⟨_, hh.1, own_nil _ _ _ _⟩, hh.2⟩
    · have e1 : tsK xs ⟨level, index, wide⟩ = 1 := by unfold tsK; rw [if_neg (by rw [k0]; simp), if_pos ht]
      have e2 : tsV xs ⟨level, index, wide⟩ = [] := by unfold tsV; rw [if_neg (by rw [e1]; decide)]
      rw [e1, e2]
      exact (TSums_range A n c xs level index wide w hr hm hk ht).mono fun e w' hh => ⟨⟨_, hh.1, own_nil _ _ _ _⟩, hh.2⟩
  · have k0 := leafsK_bad hk
    have e1 : tsK xs ⟨level, index, wide⟩ = leafsErr xs := by unfold tsK; rw [if_pos k0, leafsK_ne hk]
    have e2 : tsV xs ⟨level, index, wide⟩ = [] := by unfold tsV; rw [if_neg (by rw [e1, ← leafsK_ne hk]; exact k0)]
    rw [e1, e2, errR_ne (by rw [← leafsK_ne hk]; exact k0)]
    exact (TSums_bad A n c xs level index wide w hr hm hk).mono fun e w' hh => ⟨⟨_, hh.1, own_nil _ _ _ _⟩, hh.2⟩
def whOk (k i : Int) : Prop := 0 ≤ k ∧ k ≤ 3 ∧ 0 ≤ i ∧ i ≤ 199
instance (k i : Int) : Decidable (whOk k i) := by unfold whOk; infer_instance
def whK (k i : Int) : Int := if whOk k i then 0 else 1
def whT (k i : Int) : Tl := if whOk k i then ⟨k, i / 4, i % 4 + 1⟩ else ⟨0, 0, 0⟩
def whA (k i : Int) : Int := if whOk k i then i % 4 else 0
/-- does a tile of a list hold another? -/
def holdsT (t u : Tl) : Bool := decide (u.level = t.level ∧ u.index = t.index ∧ t.wide ≤ u.wide)
def hasT (t : Tl) (T : List Tl) : Bool := T.any (holdsT t)
theorem hasT_snoc (t u : Tl) (T : List Tl) : hasT t (T ++ [u]) = (hasT t T || holdsT t u) := by simp [hasT]
theorem allT_has (s : Nat) : ∀ (K k i : Nat), k < K → 4 * i < s / 4 ^ k → tileAt (s / 4 ^ k) k i ∈ allT s K
  | 0, k, i, h, _ => by omega
  | K + 1, k, i, h, h2 => by
    rw [allT, List.mem_append]
    by_cases e : k = K
    · subst e
      refine .inr ?_
      unfold tilesAt
      rw [List.mem_map]
      exact ⟨i, by rw [List.mem_range]; omega, rfl⟩
    · exact .inl (allT_has s K k i (by omega) h2)
theorem hasT_all {t : Tl} {n : Nat} (ht : tlOk t) : hasT t (allT n 4) = true ↔ tlIn n t := by
  obtain ⟨level, index, wide⟩ := t
  obtain ⟨t1, t2, t3, t4, t5⟩ := ht
  simp only at t1 t2 t3 t4 t5
  obtain ⟨k, rfl⟩ := Int.eq_ofNat_of_zero_le t1
  obtain ⟨i, rfl⟩ := Int.eq_ofNat_of_zero_le t3
  obtain ⟨m, rfl⟩ := Int.eq_ofNat_of_zero_le (show 0 ≤ wide by omega)
  unfold hasT tlIn
  rw [List.any_eq_true]
  simp only [Int.toNat_natCast]
  constructor
  · rintro ⟨u, hu, hh⟩
    obtain ⟨k', i', m', h1, rfl, h2, h3, h4⟩ := allT_mem n 4 u hu
    obtain ⟨e1, e2, e3⟩ := of_decide_eq_true hh
    simp only at e1 e2 e3
    have f1 : k' = k := by omega
    have f2 : i' = i := by omega
    subst f1; subst f2
    omega
  · intro h
    refine ⟨_, allT_has n 4 k i (by omega) (by omega), decide_eq_true ⟨rfl, rfl, ?_⟩⟩
    show (m : Int) ≤ min 4 (((n / 4 ^ k : Nat) : Int) - (i : Int) * 4)
    generalize n / 4 ^ k = q at *
    omega
theorem holds_in {t u : Tl} {n : Nat} (ht : tlOk t) (hu : u ∈ allT n 4) (h : holdsT t u = true) : tlIn n t :=
  (hasT_all ht).1 (List.any_eq_true.2 ⟨u, hu, h⟩)
end Go.Proofs.YtfccbjfiionepaaGreatDoor

/- What a log answers, plain: sums as text; the answer to a text. -/
namespace Go.Proofs.YtfccbjfiionepaaGreatDoor
set_option linter.unusedVariables false

/-- texts with a blank between -/
def jnB (l : List ByteArray) : ByteArray := ⟨(Lib.join (l.map (·.data.toList)) [32]).toArray⟩
theorem join_snoc (sep x : List UInt8) : ∀ (l : List (List UInt8)), l ≠ [] → Lib.join (l ++ [x]) sep = Lib.join l sep ++ (sep ++ x)
  | [], h => absurd rfl h
  | [a], _ => by simp [Lib.join, List.intercalate]
  | a :: b :: l, _ => by
    have ih := join_snoc sep x (b :: l) (by simp)
    have e : ∀ (u v : List UInt8) (r : List (List UInt8)), Lib.join (u :: v :: r) sep = u ++ (sep ++ Lib.join (v :: r) sep) := by
      intro u v r; simp [Lib.join, List.intercalate]
    rw [List.cons_append, List.cons_append, e, e]
    rw [List.cons_append] at ih
    rw [ih]
    simp only [List.append_assoc]
theorem jnB_nil : jnB [] = ⟨#[]⟩ := rfl
theorem jnB_one (s : ByteArray) : jnB [s] = s := by
  apply ba_ext
  simp [jnB, Lib.join, List.intercalate]
theorem jnB_snoc (l : List ByteArray) (x : ByteArray) (h : l ≠ []) : jnB (l ++ [x]) = jnB l ++ (⟨#[32]⟩ ++ x) := by
  apply ba_ext
  have := join_snoc [32] x.data.toList (l.map (·.data.toList)) (by simpa using h)
  simp only [jnB, List.map_append, List.map_cons, List.map_nil]
  rw [this]
  simp
theorem join_parts : ∀ (l : List (List UInt8)), l ≠ [] → (∀ p ∈ l, ∀ b ∈ p, b ≠ 32) → partsL 32 (Lib.join l [32]) = l
  | [], h, _ => absurd rfl h
  | [a], _, h => by
    rw [Lib.join_one]
    exact partsL_one 32 a (h a (by simp))
  | a :: b :: l, _, h => by
    have e : Lib.join (a :: b :: l) [32] = a ++ 32 :: Lib.join (b :: l) [32] := by simp [Lib.join, List.intercalate]
    rw [e, partsL_app 32 a _ (h a (by simp)), join_parts (b :: l) (by simp) (fun p hp => h p (by simp [hp]))]
theorem jnB_parts {l : List ByteArray} (h : l ≠ []) (hf : ∀ s ∈ l, freeB 32 s) : partsB 32 (jnB l) = l := by
  unfold partsB jnB
  have e := join_parts (l.map (·.data.toList)) (by simpa using h) (fun p hp b hb => by
    obtain ⟨s, hs, rfl⟩ := List.mem_map.1 hp
    exact hf s hs b hb)
  show (partsL 32 (Lib.join (l.map (·.data.toList)) [32]).toArray.toList).map _ = l
  rw [List.toList_toArray, e, List.map_map]
  conv => rhs; rw [← List.map_id l]
  apply List.map_congr_left
  intro s _
  apply ba_ext
  simp
/-- sums as text -/
def textsV (l : List Int) : ByteArray := if l = [] then ⟨#[45]⟩ else jnB (l.map fun n => hexT n.toNat)
def sumsV (l : List Int) (k : Int) : ByteArray := if k ≠ 0 then ⟨#[]⟩ else textsV l
/-- the sums of a tile, as wide as it is -/
def wholeT (n : Nat) (k i : Nat) : Option Tl := (allT n 4).find? fun t => decide (t.level = (k : Int) ∧ t.index = (i : Int))
def wholeV (xs : List Int) (k i : Nat) : List Int := match wholeT xs.length k i with
  | none => []
  | some t => sumsT xs t.level.toNat t.index.toNat t.wide.toNat
def wholeK (xs : List Int) (k i : Nat) : Int := match wholeT xs.length k i with
  | none => 5
  | some _ => 0
/-- an entry as text -/
def entT (e : Ent) : ByteArray := digB e.time.toNat ++ ⟨#[32]⟩ ++ e.data
/-- the answer to what was read, of a log that is right -/
def ansW (es : List Ent) (h : Hd) (x : ByteArray) (a b : Nat) : ByteArray × Int :=
  let xs := es.map Ent.leaf
  if x = wHead then (headB h, 0)
  else if x = wProof then (sumsV (pmV xs a b) (pmK xs a b), pmK xs a b)
  else if x = wGrow then (sumsV (gmV xs a b) (gmK xs a b), gmK xs a b)
  else if x = wTile then (sumsV (wholeV xs a b) (wholeK xs a b), wholeK xs a b)
  else match es[a]? with
    | none => (⟨#[]⟩, 5)
    | some e => if x = wLeaf then (hexT e.leaf.toNat, 0) else (entT e, 0)
def ansR (es : List Ent) (key now : Int) (s : ByteArray) : ByteArray × Int := match askR s with
  | none => (⟨#[]⟩, 2)
  | some (x, ns) => if shK es key now ≠ 0 then (⟨#[]⟩, shK es key now) else ansW es (shH es key now) x (ns.getD 0 0) (ns.getD 1 0)
end Go.Proofs.YtfccbjfiionepaaGreatDoor
