import Derived.Test.YtelcabjhbgkfmaaDoorAt
import Derived.Test.YtelcabjhbgkfmaaDoorOwnI
import Derived.Test.YtelcabjhbgkfmaaDoorPeaksPure
import Derived.Deep.LoopGhost
import Derived.Test.YtelcabjhbgkfmaaDoorLeafs
namespace Go.Proofs.YtelcabjhbgkfmaaDoor
open Go.RowKit Go.WideShapes
set_option linter.unusedVariables false
attribute [local go_sem ↓] Go.wp_at_zero Go.wp_at_succ

theorem info_tile : (Tryd.prog.info? 62).map (fun i => (i.zero, i.size, i.bytes)) = some (some (.agg #[.int .i64 0, .int .i64 0, .int .i64 0]), 3, 24) := by kernel_rfl
def OwnT (w w' : World) (v : Value) (ts : List Tl) : Prop := w'.ownsRow w.heap.size 62 3 v ts.length (ts.flatMap Tl.cells)
theorem OwnT.mk {w w' : World} {v : Value} {n : Nat} {cs : List Value} {ts : List Tl} (h : w'.ownsRow w.heap.size 62 3 v n cs) (hn : n = ts.length) (hc : cs = ts.flatMap Tl.cells) : OwnT w w' v ts := by
  subst hn; subst hc; exact h
theorem OwnT.ext {w w' w2 : World} {v : Value} {ts : List Tl} (h : OwnT w w' v ts) (e : Ext w' w2) : OwnT w w2 v ts := own_ext h e

theorem oneT (t : Tl) : ∀ u ∈ t.cells, u.oneCell' = true := by intro u hu; simp [Tl.cells] at hu; rcases hu with rfl | rfl | rfl <;> rfl

theorem many_any (s k : Nat) (w : World) (hs : s ≤ 200) (hk : k ≤ 4) :
    Calls Tryd.prog 100 #[.int .i64 s, .int .i64 k] w fun e w' => e = .returned (.int .i64 (s / 4 ^ k : Nat)) ∧ w = w' := by
  obtain ⟨r, hr⟩ : ∃ r, r = s / 4 ^ k := ⟨_, rfl⟩
  rw [← hr]
  have HR := Lib.hid hr
  clear hr
  go_enter Tryd.func100, Tryd.ntmps100
  go_wp2_with fail
  go_loop [0, 6] (fun a i => ∃ (q j : Nat), a = .int .i64 q ∧ i = .int .i64 j ∧ j ≤ k ∧ q ≤ 200 ∧ Hid (q = s / 4 ^ j)) (fun _ i => k - (intOf i).toNat)
  case atStart => exact ⟨s, 0, rfl, rfl, Nat.zero_le _, hs, by show _ = _; simp⟩
  case round =>
    obtain ⟨q, j, rfl, rfl, hj, hq, HQ⟩ := hrel
    by_cases hc : j < k
    · go_wp2_with fail
      go_round
      case rel => exact ⟨q / 4, j + 1, by go_num, by go_num, by omega, by omega, by show _ = _; rw [HQ.out, div4]⟩
      case measure => simp [intOf]; omega
    · obtain rfl : j = k := by omega
      go_wp2_with fail
      go_ret
      exact ⟨ret_int (by rw [HR.out, HQ.out]), rfl⟩

set_option maxRecDepth 100000 in
set_option maxHeartbeats 1000000 in
theorem AllOf_any (s : Nat) (w : World) (hs : s ≤ 200) :
    Calls Tryd.prog 61 #[.int .i64 s] w fun e w' => (∃ v, e = .returned v ∧ OwnT w w' v (allT s 4)) ∧ Ext w w' := by
  have HL := Lib.hid (allT_len s hs)
  obtain ⟨i0, hi0, hz0, hz1, hz2⟩ := info_parts info_tile
  go_enter Tryd.func61, Tryd.ntmps61
  go_wp2_with fail
  go_loopg [2, 6] 4 (fun g v kk wr => ∃ k : Nat, k + g = 4 ∧ kk = .int .i64 k ∧ Hid (OwnT w wr v (allT s k)) ∧ Ext w wr)
  case atStart => exact ⟨0, rfl, rfl, own_nil _ _ _ _, by (repeat (with_reducible first | exact Ext.refl _ | assumption | refine Ext.drew ?_ | refine Ext.drewN ?_ _ | refine Ext.alloc ?_ _ | refine Ext.trans ?_ (by with_reducible assumption)))⟩
  case round =>
    obtain ⟨k, hg, rfl, hown, hbw⟩ := hrel
    by_cases hc : k < 4
    · have hq := div4_le s k
      go_wp2_with fail
      refine (many_any s k _ hs (by omega)).mono ?_
      rintro e w' ⟨rfl, rfl⟩
      have HQ : Hid (s / 4 ^ k = s / 4 ^ k) := rfl
      generalize hqq : s / 4 ^ k = q at *
      have HQQ := Lib.hid hqq
      clear hqq HQ
      go_wp2_with fail
      go_loopg [2, 5] ((q + 3) / 4) (fun g2 v i wr => ∃ j : Nat, j + g2 = (q + 3) / 4 ∧ i = .int .i64 j ∧ Hid (OwnT w wr v (allT s k ++ (tilesAt q k).take j)) ∧ Ext w wr)
      case atStart => exact ⟨0, by omega, rfl, by show OwnT _ _ _ _; simpa using hown.out, hbw⟩
      case round =>
        obtain ⟨j, hg2, rfl, hown2, hbw2⟩ := hrel
        by_cases hc2 : 4 * j < q
        · have hl2 : (allT s k ++ (tilesAt q k).take j).length ≤ 1000 := by
            rw [List.length_append, List.length_take]
            have := HL.out k
            omega
          have HT : Hid (allT s k ++ (tilesAt q k).take (j + 1) = (allT s k ++ (tilesAt q k).take j) ++ [tileAt q k j]) := by show _ = _; rw [tilesAt_take q k j hc2, List.append_assoc]
          generalize allT s k ++ (tilesAt q k).take j = L at *
          go_wp2_with (at_builtin; refine wpl_app (by rfl) _ _ _ (by rfl) w.heap.size 62 i0 _ 3 24 Tryd.underlying54 hi0 hz0 hz1 hz2 rfl (by omega) u2 _ _ (by rfl) ((hown2.out).alloc _) wr.heap.size 1 (tileAt q k j).cells rfl (by rfl) (news_new wr _ _ _ rfl) (oneT _) (by omega) (by omega) (by have := hbw2.size; simp; omega) ?_; intro g cap w3 own3 hext3)
          go_roundg ((q + 3) / 4 - (j + 1))
          case measure => omega
          case rel => exact ⟨j + 1, by omega, by go_num, OwnT.mk own3 (by rw [HT.out]; simp) (by rw [HT.out]; simp [List.flatMap_append]), hext3 _ (Nat.le_refl _) (by (repeat (with_reducible first | exact Ext.refl _ | assumption | refine Ext.drew ?_ | refine Ext.drewN ?_ _ | refine Ext.alloc ?_ _ | refine Ext.trans ?_ (by with_reducible assumption))))⟩
        · go_wp2_with fail
          go_roundg (3 - k)
          case measure => omega
          case rel => exact ⟨k + 1, by omega, by go_num, (by have := hown2.out; rw [tilesAt_all q k j (by omega)] at this; rw [allT, HQQ.out]; exact this), hbw2⟩
    · obtain rfl : k = 4 := by omega
      go_wp2_with fail
      go_ret
      exact ⟨⟨_, rfl, hown.out⟩, hbw⟩

set_option maxRecDepth 100000 in
set_option maxHeartbeats 2000000 in
theorem SumsOf_any (A : Option Addr) (n c : Nat) (xs : List Int) (k i m : Nat) (w : World) (hr : Rd w 1 A n c (xs.map (Value.int .i64))) (hm : c ≤ maxLen) (hk : leafsOk xs) (hk3 : k ≤ 3) (hm4 : m ≤ 4) (hf : i * 4 + m ≤ n / 4 ^ k) :
    Calls Tryd.prog 62 #[.slice A n c, .agg #[.int .i64 k, .int .i64 i, .int .i64 m]] w fun e w' => (∃ v, e = .returned v ∧ OwnN w w' v (sumsT xs k i m)) ∧ Ext w w' := by
  have hx := hr.lenI
  have hn : n ≤ 200 := by have := hk.1; omega
  have hl := hr.2.1
  have hi : i ≤ 200 := by have := div4_le n k; omega
  have HX := Lib.hid hx
  clear hx
  obtain ⟨i0, hi0, hz0, hz1, hz2⟩ := info_parts info_int'
  have B : Bk (w.alloc (.cells #[.int .i64 k, .int .i64 i, .int .i64 m] 62)) w.heap.size 62 #[.int .i64 k, .int .i64 i, .int .i64 m] := Bk.at_ _ _ _ _ rfl
  have q0 := B.cell 0
  have q1 := B.cell 1
  have q2 := B.cell 2
  go_enter Tryd.func62, Tryd.ntmps62
  go_wp2_with fail
  go_loop [5, 10] (fun a x => ∃ (q j : Nat), a = .int .i64 q ∧ x = .int .i64 j ∧ j ≤ k ∧ q ≤ 64 ∧ Hid (q = 4 ^ j)) (fun _ x => k - (intOf x).toNat)
  case atStart => exact ⟨1, 0, rfl, rfl, Nat.zero_le _, by omega, rfl⟩
  case round =>
    obtain ⟨q, j, rfl, rfl, hj, hq, HQ⟩ := hrel
    by_cases hc : j < k
    · have hq4 : q * 4 ≤ 64 := by
        have := pow4_le (k := j + 1) (by omega)
        rw [Nat.pow_succ] at this
        rw [HQ.out]; exact this
      go_wp2_with fail
      go_round
      case rel => exact ⟨q * 4, j + 1, by go_num, by go_num, by omega, hq4, by show _ = _; rw [HQ.out, Nat.pow_succ]⟩
      case measure => simp [intOf]; omega
    · obtain rfl : j = k := by omega
      go_wp2_with fail
      go_loopw [4, 17] (fun v x wr => ∃ j' : Nat, x = .int .i64 j' ∧ j' ≤ m ∧ Hid (OwnN (w.alloc (.cells #[.int .i64 j, .int .i64 i, .int .i64 m] 62)) wr v (sumsT xs j i j')) ∧ Ext (w.alloc (.cells #[.int .i64 j, .int .i64 i, .int .i64 m] 62)) wr) (fun _ x _ => m - (intOf x).toNat)
      case atStart => exact ⟨0, rfl, Nat.zero_le _, own_nil _ _ _ _, by (repeat (with_reducible first | exact Ext.refl _ | assumption | refine Ext.drew ?_ | refine Ext.drewN ?_ _ | refine Ext.alloc ?_ _ | refine Ext.trans ?_ (by with_reducible assumption)))⟩
      case round =>
        obtain ⟨j', rfl, hj', hown, hbw⟩ := hrel
        by_cases hc2 : j' < m
        · have hfit := fits hf hc2
          have HS : Hid (sumsT xs j i (j' + 1) = sumsT xs j i j' ++ [ofL ((xs.take ((i * 4 + j') * 4 ^ j + 4 ^ j)).drop ((i * 4 + j') * 4 ^ j))]) := sumsT_snoc _ _ _ _
          have e1 : ((i : Int) * 4 + (j' : Int)) * (q : Int) = (((i * 4 + j') * 4 ^ j : Nat) : Int) := by rw [HQ.out]; push_cast; rfl
          rw [← HQ.out] at hfit HS e1
          have hlen := sumsT_len xs j i j'
          have hq1 : 1 ≤ q := by rw [HQ.out]; exact Nat.one_le_pow _ _ (by omega)
          have r1 : wr.cell? ⟨w.heap.size, 1, none⟩ = some (.int .i64 i) := (Ext.cell (p := ⟨w.heap.size, 1, none⟩) hbw (by simp)).trans q1
          generalize (i * 4 + j') * q = f at *
          generalize sumsT xs j i j' = L at *
          have hcf : c ≠ f := by omega
          have hR := Rd_part (hr.ext ((Ext.alloc (Ext.refl w) (.cells #[.int .i64 j, .int .i64 i, .int .i64 m] 62)).trans hbw)) (i := f) (j := f + q) (by omega) (by omega)
          rw [if_neg hcf, Nat.add_sub_cancel_left] at hR
          have hva := allV_drop (allV_take hk.2 (f + q)) f
          have f1 : (0 : Int) ≤ (f : Int) := by omega
          have f2 : (f : Int) + (q : Int) ≤ (c : Int) := by omega
          have f3 : (f : Int) ≤ (c : Int) := by omega
          have f4 : (f : Int) ≤ (f : Int) + (q : Int) := by omega
          have f5 : f + q ≤ 200 := by omega
          have f6 : (f : Int) + (q : Int) - (f : Int) = (q : Int) := by omega
          have hbw0 : w.heap.size ≤ wr.heap.size := by have := hbw.size; simp at this; omega
          go_wp2_with fail
          refine (Of_any q _ q (c - f) _ _ (Nat.le_refl _) hR (by omega) (by omega) hva).mono ?_
          rintro e w1 ⟨rfl, hb1⟩
          generalize ofL ((xs.take (f + q)).drop f) = z at *
          have hl2 : L.length ≤ 4 := by omega
          have hbw1 := hb1.size
          clear hlen
          go_wp2_with (at_builtin; refine wpl_app (by rfl) _ _ _ (by rfl) (w.alloc (.cells #[.int .i64 j, .int .i64 i, .int .i64 m] 62)).heap.size 3 i0 _ 1 8 Tryd.underlying53 hi0 hz0 hz1 hz2 rfl (by omega) u4 _ _ (by rfl) ((own_ext hown.out hb1).alloc _) w1.heap.size 1 [.int .i64 z] rfl (by rfl) (news_new w1 _ _ _ rfl) (oneN _) (by omega) (by omega) (by have := hbw.size; simp at this ⊢; omega) ?_; intro g cap w3 own3 hext3)
          go_roundw
          case rel => exact ⟨j' + 1, by go_num, by omega, OwnN.mk own3 (by rw [HS.out]; simp) (by rw [HS.out]; simp), hext3 _ (Nat.le_refl _) (by (repeat (with_reducible first | exact Ext.refl _ | assumption | refine Ext.drew ?_ | refine Ext.drewN ?_ _ | refine Ext.alloc ?_ _ | refine Ext.trans ?_ (by with_reducible assumption))))⟩
          case measure => simp [intOf]; omega
        · obtain rfl : j' = m := by omega
          go_wp2_with fail
          go_ret
          exact ⟨⟨_, rfl, own_lower hown.out (by simp)⟩, by (repeat (with_reducible first | exact Ext.refl _ | assumption | refine Ext.drew ?_ | refine Ext.drewN ?_ _ | refine Ext.alloc ?_ _ | refine Ext.trans ?_ (by with_reducible assumption)))⟩
end Go.Proofs.YtelcabjhbgkfmaaDoor

namespace Go.Proofs.YtelcabjhbgkfmaaDoor
open Go.RowKit
set_option linter.unusedVariables false

theorem allT_mem (s : Nat) : ∀ (K : Nat) (t : Tl), t ∈ allT s K → ∃ k i m : Nat, k < K ∧ t = ⟨(k : Int), (i : Int), (m : Int)⟩ ∧ 1 ≤ m ∧ m ≤ 4 ∧ i * 4 + m ≤ s / 4 ^ k
  | 0, t, h => by simp [allT] at h
  | K + 1, t, h => by
    rw [allT, List.mem_append] at h
    rcases h with h | h
    · obtain ⟨k, i, m, h1, h2⟩ := allT_mem s K t h
      exact ⟨k, i, m, by omega, h2⟩
    · unfold tilesAt at h
      rw [List.mem_map] at h
      obtain ⟨i, hi, rfl⟩ := h
      rw [List.mem_range] at hi
      obtain ⟨q, hq⟩ : ∃ q, q = s / 4 ^ K := ⟨_, rfl⟩
      rw [← hq] at hi ⊢
      refine ⟨K, i, min 4 (q - 4 * i), by omega, ?_, by omega, by omega, by rw [← hq]; omega⟩
      unfold tileAt
      congr 1
      omega
theorem Rd.getT {w : World} {A : Option Addr} {n c : Nat} {ts : List Tl} (h : Rd w 3 A n c (ts.flatMap Tl.cells)) {j : Nat} {t : Tl} (he : ts[j]? = some t) :
    ∃ ad, A = some ad ∧ ad.block < w.heap.size ∧ w.cell? (ad.add (j * 3)) = some (.int .i64 t.level) ∧ w.cell? ⟨(ad.add (j * 3)).block, (ad.add (j * 3)).off + 1, none⟩ = some (.int .i64 t.index) ∧ w.cell? ⟨(ad.add (j * 3)).block, (ad.add (j * 3)).off + 2, none⟩ = some (.int .i64 t.wide) := by
  have h0 := flat_nth (f := Tl.cells) (k := 3) (fun _ => rfl) ts j t 0 he (by omega)
  have h1 := flat_nth (f := Tl.cells) (k := 3) (fun _ => rfl) ts j t 1 he (by omega)
  have h2 := flat_nth (f := Tl.cells) (k := 3) (fun _ => rfl) ts j t 2 he (by omega)
  obtain ⟨ad, e1, hb, hc0⟩ := h.at_ h0
  obtain ⟨ad', e2, _, hc1⟩ := h.at_ h1
  obtain ⟨ad'', e3, _, hc2⟩ := h.at_ h2
  rw [e1] at e2 e3
  obtain rfl : ad = ad' := by injection e2
  obtain rfl : ad = ad'' := by injection e3
  rw [← add_add'] at hc1 hc2
  exact ⟨ad, e1, hb, hc0, hc1, hc2⟩
end Go.Proofs.YtelcabjhbgkfmaaDoor

namespace Go.Proofs.YtelcabjhbgkfmaaDoor
open Go.RowKit Go.WideShapes
set_option linter.unusedVariables false
attribute [local go_sem ↓] Go.wp_at_zero Go.wp_at_succ

end Go.Proofs.YtelcabjhbgkfmaaDoor
