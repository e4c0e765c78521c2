import Derived.Test.YtnphbkjkeipmmaaGreatDoorJRunBegins6
import Derived.Test.YtnphbkjkeipmmaaGreatDoorJRunBegins8
import Derived.Deep.LoopGhost
import Derived.Test.YtnphbkjkeipmmaaGreatDoorJRunBegins15
import Derived.Deep.DeepCutAuto
namespace Go.Proofs.YtnphbkjkeipmmaaGreatDoor
open Go.RowKit Go.WideShapes
set_option linter.unusedVariables false
attribute [local go_sem ↓] Go.wp_at_zero Go.wp_at_succ

theorem info_tile : (Tryz.prog.info? 100).map (fun i => (i.zero, i.size, i.bytes)) = some (some (.agg #[.int .i64 0, .int .i64 0, .int .i64 0]), 3, 24) := by kernel_rfl
def OwnT (w w' : World) (v : Value) (ts : List Tl) : Prop := w'.ownsRow w.heap.size 100 3 v ts.length (ts.flatMap Tl.cells)
theorem OwnT.mk {w w' : World} {v : Value} {n : Nat} {cs : List Value} {ts : List Tl} (h : w'.ownsRow w.heap.size 100 3 v n cs) (hn : n = ts.length) (hc : cs = ts.flatMap Tl.cells) : OwnT w w' v ts := by
  subst hn; subst hc; exact h
theorem OwnT.ext {w w' w2 : World} {v : Value} {ts : List Tl} (h : OwnT w w' v ts) (e : Ext w' w2) : OwnT w w2 v ts := own_ext h e

theorem oneT (t : Tl) : ∀ u ∈ t.cells, u.oneCell' = true := by intro u hu; simp [Tl.cells] at hu; rcases hu with rfl | rfl | rfl <;> rfl

theorem many_any (s k : Nat) (w : World) (hs : s ≤ 200) (hk : k ≤ 4) :
    Calls Tryz.prog 143 #[.int .i64 s, .int .i64 k] w fun e w' => e = .returned (.int .i64 (s / 4 ^ k : Nat)) ∧ w = w' := by
  obtain ⟨r, hr⟩ : ∃ r, r = s / 4 ^ k := ⟨_, rfl⟩
  rw [← hr]
  have HR := Lib.hid hr
  clear hr
  go_enter Tryz.func143, Tryz.ntmps143
  go_wp2_with fail
  go_loop [0, 6] (fun a i => ∃ (q j : Nat), a = .int .i64 q ∧ i = .int .i64 j ∧ j ≤ k ∧ q ≤ 200 ∧ Hid (q = s / 4 ^ j)) (fun _ i => k - (intOf i).toNat)
  case atStart => exact ⟨s, 0, rfl, rfl, Nat.zero_le _, hs, by show _ = _; simp⟩
  case round =>
    obtain ⟨q, j, rfl, rfl, hj, hq, HQ⟩ := hrel
    by_cases hc : j < k
    · go_wp2_with fail
      go_round
      case rel => exact ⟨q / 4, j + 1, by go_num, by go_num, by omega, by omega, by show _ = _; rw [HQ.out, div4]⟩
      case measure => simp [intOf]; omega
    · obtain rfl : j = k := by omega
      go_wp2_with fail
      go_ret
      exact ⟨ret_int (by rw [HR.out, HQ.out]), rfl⟩

set_option maxRecDepth 100000 in
set_option maxHeartbeats 1000000 in
theorem AllOf_any (s : Nat) (w : World) (hs : s ≤ 200) :
    Calls Tryz.prog 120 #[.int .i64 s] w fun e w' => (∃ v, e = .returned v ∧ OwnT w w' v (allT s 4)) ∧ Ext w w' := by
  have HL := Lib.hid (allT_len s hs)
  obtain ⟨i0, hi0, hz0, hz1, hz2⟩ := info_parts info_tile
  go_enter Tryz.func120, Tryz.ntmps120
  go_wp2_with fail
  go_loopg [2, 6] 4 (fun g v kk wr => ∃ k : Nat, k + g = 4 ∧ kk = .int .i64 k ∧ Hid (OwnT w wr v (allT s k)) ∧ Ext w wr)
  case atStart => exact ⟨0, rfl, rfl, own_nil _ _ _ _, by (repeat (with_reducible first | exact Ext.refl _ | assumption | refine Ext.drew ?_ | refine Ext.drewN ?_ _ | refine Ext.alloc ?_ _ | refine Ext.trans ?_ (by with_reducible assumption)))⟩
  case round =>
    obtain ⟨k, hg, rfl, hown, hbw⟩ := hrel
    by_cases hc : k < 4
    · have hq := div4_le s k
      go_wp2_with fail
      refine (many_any s k _ hs (by omega)).mono ?_
      rintro e w' ⟨rfl, rfl⟩
      have HQ : Hid (s / 4 ^ k = s / 4 ^ k) := rfl
      generalize hqq : s / 4 ^ k = q at *
      have HQQ := Lib.hid hqq
      clear hqq HQ
      go_wp2_with fail
      go_loopg [2, 5] ((q + 3) / 4) (fun g2 v i wr => ∃ j : Nat, j + g2 = (q + 3) / 4 ∧ i = .int .i64 j ∧ Hid (OwnT w wr v (allT s k ++ (tilesAt q k).take j)) ∧ Ext w wr)
      case atStart => exact ⟨0, by omega, rfl, by show OwnT _ _ _ _; simpa using hown.out, hbw⟩
      case round =>
        obtain ⟨j, hg2, rfl, hown2, hbw2⟩ := hrel
        by_cases hc2 : 4 * j < q
        · have hl2 : (allT s k ++ (tilesAt q k).take j).length ≤ 1000 := by
            rw [List.length_append, List.length_take]
            have := HL.out k
            omega
          have HT : Hid (allT s k ++ (tilesAt q k).take (j + 1) = (allT s k ++ (tilesAt q k).take j) ++ [tileAt q k j]) := by show _ = _; rw [tilesAt_take q k j hc2, List.append_assoc]
          generalize allT s k ++ (tilesAt q k).take j = L at *
          go_wp2_with (at_builtin; refine wpl_app (by rfl) _ _ _ (by rfl) w.heap.size 100 i0 _ 3 24 Tryz.underlying97 hi0 hz0 hz1 hz2 rfl (by omega) u2 _ _ (by rfl) ((hown2.out).alloc _) wr.heap.size 1 (tileAt q k j).cells rfl (by rfl) (news_new wr _ _ _ rfl) (oneT _) (by omega) (by omega) (by have := hbw2.size; simp; omega) ?_; intro g cap w3 own3 hext3)
          go_roundg ((q + 3) / 4 - (j + 1))
          case measure => omega
          case rel => exact ⟨j + 1, by omega, by go_num, OwnT.mk own3 (by rw [HT.out]; simp) (by rw [HT.out]; simp [List.flatMap_append]), hext3 _ (Nat.le_refl _) (by (repeat (with_reducible first | exact Ext.refl _ | assumption | refine Ext.drew ?_ | refine Ext.drewN ?_ _ | refine Ext.alloc ?_ _ | refine Ext.trans ?_ (by with_reducible assumption))))⟩
        · go_wp2_with fail
          go_roundg (3 - k)
          case measure => omega
          case rel => exact ⟨k + 1, by omega, by go_num, (by have := hown2.out; rw [tilesAt_all q k j (by omega)] at this; rw [allT, HQQ.out]; exact this), hbw2⟩
    · obtain rfl : k = 4 := by omega
      go_wp2_with fail
      go_ret
      exact ⟨⟨_, rfl, hown.out⟩, hbw⟩

set_option maxRecDepth 100000 in
set_option maxHeartbeats 2000000 in
theorem SumsOf_any (A : Option Addr) (n c : Nat) (xs : List Int) (k i m : Nat) (w : World) (hr : Rd w 1 A n c (xs.map (Value.int .i64))) (hm : c ≤ maxLen) (hk : leafsOk xs) (hk3 : k ≤ 3) (hm4 : m ≤ 4) (hf : i * 4 + m ≤ n / 4 ^ k) :
    Calls Tryz.prog 121 #[.slice A n c, .agg #[.int .i64 k, .int .i64 i, .int .i64 m]] w fun e w' => (∃ v, e = .returned v ∧ OwnN w w' v (sumsT xs k i m)) ∧ Ext w w' := by
  have hx := hr.lenI
  have hn : n ≤ 200 := by have := hk.1; omega
  have hl := hr.2.1
  have hi : i ≤ 200 := by have := div4_le n k; omega
  have HX := Lib.hid hx
  clear hx
  obtain ⟨i0, hi0, hz0, hz1, hz2⟩ := info_parts info_int'
  have B : Bk (w.alloc (.cells #[.int .i64 k, .int .i64 i, .int .i64 m] 100)) w.heap.size 100 #[.int .i64 k, .int .i64 i, .int .i64 m] := Bk.at_ _ _ _ _ rfl
  have q0 := B.cell 0
  have q1 := B.cell 1
  have q2 := B.cell 2
  go_enter Tryz.func121, Tryz.ntmps121
  go_wp2_with fail
  go_loop [5, 10] (fun a x => ∃ (q j : Nat), a = .int .i64 q ∧ x = .int .i64 j ∧ j ≤ k ∧ q ≤ 64 ∧ Hid (q = 4 ^ j)) (fun _ x => k - (intOf x).toNat)
  case atStart => exact ⟨1, 0, rfl, rfl, Nat.zero_le _, by omega, rfl⟩
  case round =>
    obtain ⟨q, j, rfl, rfl, hj, hq, HQ⟩ := hrel
    by_cases hc : j < k
    · have hq4 : q * 4 ≤ 64 := by
        have := pow4_le (k := j + 1) (by omega)
        rw [Nat.pow_succ] at this
        rw [HQ.out]; exact this
      go_wp2_with fail
      go_round
      case rel => exact ⟨q * 4, j + 1, by go_num, by go_num, by omega, hq4, by show _ = _; rw [HQ.out, Nat.pow_succ]⟩
      case measure => simp [intOf]; omega
    · obtain rfl : j = k := by omega
      go_wp2_with fail
      go_loopw [4, 17] (fun v x wr => ∃ j' : Nat, x = .int .i64 j' ∧ j' ≤ m ∧ Hid (OwnN (w.alloc (.cells #[.int .i64 j, .int .i64 i, .int .i64 m] 100)) wr v (sumsT xs j i j')) ∧ Ext (w.alloc (.cells #[.int .i64 j, .int .i64 i, .int .i64 m] 100)) wr) (fun _ x _ => m - (intOf x).toNat)
      case atStart => exact ⟨0, rfl, Nat.zero_le _, own_nil _ _ _ _, by (repeat (with_reducible first | exact Ext.refl _ | assumption | refine Ext.drew ?_ | refine Ext.drewN ?_ _ | refine Ext.alloc ?_ _ | refine Ext.trans ?_ (by with_reducible assumption)))⟩
      case round =>
        obtain ⟨j', rfl, hj', hown, hbw⟩ := hrel
        by_cases hc2 : j' < m
        · have hfit := fits hf hc2
          have HS : Hid (sumsT xs j i (j' + 1) = sumsT xs j i j' ++ [ofL ((xs.take ((i * 4 + j') * 4 ^ j + 4 ^ j)).drop ((i * 4 + j') * 4 ^ j))]) := sumsT_snoc _ _ _ _
          have e1 : ((i : Int) * 4 + (j' : Int)) * (q : Int) = (((i * 4 + j') * 4 ^ j : Nat) : Int) := by rw [HQ.out]; push_cast; rfl
          rw [← HQ.out] at hfit HS e1
          have hlen := sumsT_len xs j i j'
          have hq1 : 1 ≤ q := by rw [HQ.out]; exact Nat.one_le_pow _ _ (by omega)
          have r1 : wr.cell? ⟨w.heap.size, 1, none⟩ = some (.int .i64 i) := (Ext.cell (p := ⟨w.heap.size, 1, none⟩) hbw (by simp)).trans q1
          generalize (i * 4 + j') * q = f at *
          generalize sumsT xs j i j' = L at *
          have hcf : c ≠ f := by omega
          have hR := Rd_part (hr.ext ((Ext.alloc (Ext.refl w) (.cells #[.int .i64 j, .int .i64 i, .int .i64 m] 100)).trans hbw)) (i := f) (j := f + q) (by omega) (by omega)
          rw [if_neg hcf, Nat.add_sub_cancel_left] at hR
          have hva := allV_drop (allV_take hk.2 (f + q)) f
          have f1 : (0 : Int) ≤ (f : Int) := by omega
          have f2 : (f : Int) + (q : Int) ≤ (c : Int) := by omega
          have f3 : (f : Int) ≤ (c : Int) := by omega
          have f4 : (f : Int) ≤ (f : Int) + (q : Int) := by omega
          have f5 : f + q ≤ 200 := by omega
          have f6 : (f : Int) + (q : Int) - (f : Int) = (q : Int) := by omega
          have hbw0 : w.heap.size ≤ wr.heap.size := by have := hbw.size; simp at this; omega
          go_wp2_with fail
          refine (Of_any q _ q (c - f) _ _ (Nat.le_refl _) hR (by omega) (by omega) hva).mono ?_
          rintro e w1 ⟨rfl, hb1⟩
          generalize ofL ((xs.take (f + q)).drop f) = z at *
          have hl2 : L.length ≤ 4 := by omega
          have hbw1 := hb1.size
          clear hlen
          go_wp2_with (at_builtin; refine wpl_app (by rfl) _ _ _ (by rfl) (w.alloc (.cells #[.int .i64 j, .int .i64 i, .int .i64 m] 100)).heap.size 3 i0 _ 1 8 Tryz.underlying85 hi0 hz0 hz1 hz2 rfl (by omega) u4 _ _ (by rfl) ((own_ext hown.out hb1).alloc _) w1.heap.size 1 [.int .i64 z] rfl (by rfl) (news_new w1 _ _ _ rfl) (oneN _) (by omega) (by omega) (by have := hbw.size; simp at this ⊢; omega) ?_; intro g cap w3 own3 hext3)
          go_roundw
          case rel => exact ⟨j' + 1, by go_num, by omega, OwnN.mk own3 (by rw [HS.out]; simp) (by rw [HS.out]; simp), hext3 _ (Nat.le_refl _) (by (repeat (with_reducible first | exact Ext.refl _ | assumption | refine Ext.drew ?_ | refine Ext.drewN ?_ _ | refine Ext.alloc ?_ _ | refine Ext.trans ?_ (by with_reducible assumption))))⟩
          case measure => simp [intOf]; omega
        · obtain rfl : j' = m := by omega
          go_wp2_with fail
          go_ret
          exact ⟨⟨_, rfl, own_lower hown.out (by simp)⟩, by (repeat (with_reducible first | exact Ext.refl _ | assumption | refine Ext.drew ?_ | refine Ext.drewN ?_ _ | refine Ext.alloc ?_ _ | refine Ext.trans ?_ (by with_reducible assumption)))⟩
end Go.Proofs.YtnphbkjkeipmmaaGreatDoor

namespace Go.Proofs.YtnphbkjkeipmmaaGreatDoor
open Go.RowKit
set_option linter.unusedVariables false

theorem allT_mem (s : Nat) : ∀ (K : Nat) (t : Tl), t ∈ allT s K → ∃ k i m : Nat, k < K ∧ t = ⟨(k : Int), (i : Int), (m : Int)⟩ ∧ 1 ≤ m ∧ m ≤ 4 ∧ i * 4 + m ≤ s / 4 ^ k
  | 0, t, h => by simp [allT] at h
  | K + 1, t, h => by
    rw [allT, List.mem_append] at h
    rcases h with h | h
    · obtain ⟨k, i, m, h1, h2⟩ := allT_mem s K t h
      exact ⟨k, i, m, by omega, h2⟩
    · unfold tilesAt at h
      rw [List.mem_map] at h
      obtain ⟨i, hi, rfl⟩ := h
      rw [List.mem_range] at hi
      obtain ⟨q, hq⟩ : ∃ q, q = s / 4 ^ K := ⟨_, rfl⟩
      rw [← hq] at hi ⊢
      refine ⟨K, i, min 4 (q - 4 * i), by omega, ?_, by omega, by omega, by rw [← hq]; omega⟩
      unfold tileAt
      congr 1
      omega
theorem Rd.getT {w : World} {A : Option Addr} {n c : Nat} {ts : List Tl} (h : Rd w 3 A n c (ts.flatMap Tl.cells)) {j : Nat} {t : Tl} (he : ts[j]? = some t) :
    ∃ ad, A = some ad ∧ ad.block < w.heap.size ∧ w.cell? (ad.add (j * 3)) = some (.int .i64 t.level) ∧ w.cell? ⟨(ad.add (j * 3)).block, (ad.add (j * 3)).off + 1, none⟩ = some (.int .i64 t.index) ∧ w.cell? ⟨(ad.add (j * 3)).block, (ad.add (j * 3)).off + 2, none⟩ = some (.int .i64 t.wide) := by
  have h0 := flat_nth (f := Tl.cells) (k := 3) (fun _ => rfl) ts j t 0 he (by omega)
  have h1 := flat_nth (f := Tl.cells) (k := 3) (fun _ => rfl) ts j t 1 he (by omega)
  have h2 := flat_nth (f := Tl.cells) (k := 3) (fun _ => rfl) ts j t 2 he (by omega)
  obtain ⟨ad, e1, hb, hc0⟩ := h.at_ h0
  obtain ⟨ad', e2, _, hc1⟩ := h.at_ h1
  obtain ⟨ad'', e3, _, hc2⟩ := h.at_ h2
  rw [e1] at e2 e3
  obtain rfl : ad = ad' := by injection e2
  obtain rfl : ad = ad'' := by injection e3
  rw [← add_add'] at hc1 hc2
  exact ⟨ad, e1, hb, hc0, hc1, hc2⟩
end Go.Proofs.YtnphbkjkeipmmaaGreatDoor

namespace Go.Proofs.YtnphbkjkeipmmaaGreatDoor
open Go.RowKit Go.WideShapes
set_option linter.unusedVariables false
attribute [local go_sem ↓] Go.wp_at_zero Go.wp_at_succ

end Go.Proofs.YtnphbkjkeipmmaaGreatDoor

/- The references' nodes and roots. -/
namespace Go.Proofs.YtnphbkjkeipmmaaGreatDoor
open Go.RowKit Go.WideShapes
set_option linter.unusedVariables false
attribute [local go_sem ↓] Go.wp_at_zero Go.wp_at_succ

def fourI (n : Int) : List Int := [n / 16777216, n / 65536 % 256, n / 256 % 256, n % 256]
theorem fourI_bytes {n : Int} (h0 : 0 ≤ n) (h1 : n < 2147483647) : (fourI n).map byteOf = fourB n := by
  have : n / 16777216 % 256 = n / 16777216 := by omega
  unfold fourI fourB
  rw [this]; rfl
theorem info_u8 : (Tryz.prog.info? 5).map (fun i => (i.zero, i.size, i.bytes)) = some (some (.int .u8 0), 1, 1) := by kernel_rfl
theorem oneU (z : Int) : ∀ u ∈ [Value.int .u8 z], u.oneCell' = true := by intro u hu; simp at hu; subst hu; rfl
theorem Rd.cellsU {w : World} {ad : Addr} {n c : Nat} {l : List Int} (h : Rd w 1 (some ad) n c (l.map (Value.int .u8))) : l.length = n ∧ (0 < n → ∀ j u, (l.map (Value.int .u8))[j]? = some u → w.cell? (ad.add j) = some u) := by
  refine ⟨by simpa using h.1, fun hn => ?_⟩
  obtain ⟨ad', e, _, hc⟩ := h.2.2 hn
  injection e with e; subst e
  exact hc
theorem conv_rd {w : World} {ad : Addr} {n c : Nat} {l : List Int} (h : Rd w 1 (some ad) n c (l.map (Value.int .u8))) (hn : 0 < n) :
    (convert 47 9 (.slice (some ad) n c)).run Tryz.prog w = .ok (.string ⟨(l.map byteOf).toArray⟩) w := by
  have h1 := h.cellsU.1
  have h2 := h.cellsU.2 hn
  subst h1
  exact run_conv_cells w 47 9 5 ad c l Tryz.underlying47 Tryz.underlying5 Tryz.underlying9 h2
theorem map_snoc4 (bs : List Int) (a b c d : Int) : (bs ++ [a, b, c, d]).map (Value.int .u8) = bs.map (Value.int .u8) ++ [.int .u8 a] ++ [.int .u8 b] ++ [.int .u8 c] ++ [.int .u8 d] := by simp

set_option maxRecDepth 100000 in
set_option maxHeartbeats 1000000 in
theorem RFour_any (n : Int) (v : Value) (base m : Nat) (bs : List Int) (w : World) (h0 : 0 ≤ n) (h1 : n < 2147483647) (hb : base ≤ w.heap.size) (hm : m ≤ 1000) (hown : w.ownsRow base 5 1 v m (bs.map (Value.int .u8))) :
    Calls Tryz.prog 123 #[v, .int .i64 n] w fun e w' => (∃ v', e = .returned v' ∧ w'.ownsRow base 5 1 v' (m + 4) ((bs ++ fourI n).map (Value.int .u8))) ∧ ∀ u, u.heap.size ≤ base → Ext u w → Ext u w' := by
  obtain ⟨A, c, rfl, -⟩ := own_rd hown
  obtain ⟨i0, hi0, hz0, hz1, hz2⟩ := info_parts info_u8
  have hO := Lib.hid hown
  have HM := Lib.hid (map_snoc4 bs (n / 16777216) (n / 65536 % 256) (n / 256 % 256) (n % 256))
  clear hown
  go_enter Tryz.func123, Tryz.ntmps123
  go_wp2_with (first
    | (at_builtin; refine wpl_app (by rfl) _ _ _ (by rfl) base 5 i0 _ 1 1 Tryz.underlying47 hi0 hz0 hz1 hz2 rfl (by omega) (.slice (some ⟨g3, 0, none⟩) (m + 1 + 1 + 1) c3) _ _ (by rfl) (own3.alloc _) w3.heap.size 1 [.int .u8 (n % 256)] rfl (by rfl) (news_new w3 _ _ _ rfl) (oneU _) (by omega) (by omega) (by have := own3.lt g3 rfl; simp; omega) ?_; intro g4 c4 w4 own4 hx4)
    | (at_builtin; refine wpl_app (by rfl) _ _ _ (by rfl) base 5 i0 _ 1 1 Tryz.underlying47 hi0 hz0 hz1 hz2 rfl (by omega) (.slice (some ⟨g2, 0, none⟩) (m + 1 + 1) c2) _ _ (by rfl) (own2.alloc _) w2.heap.size 1 [.int .u8 (n / 256 % 256)] rfl (by rfl) (news_new w2 _ _ _ rfl) (oneU _) (by omega) (by omega) (by have := own2.lt g2 rfl; simp; omega) ?_; intro g3 c3 w3 own3 hx3)
    | (at_builtin; refine wpl_app (by rfl) _ _ _ (by rfl) base 5 i0 _ 1 1 Tryz.underlying47 hi0 hz0 hz1 hz2 rfl (by omega) (.slice (some ⟨g1, 0, none⟩) (m + 1) c1) _ _ (by rfl) (own1.alloc _) w1.heap.size 1 [.int .u8 (n / 65536 % 256)] rfl (by rfl) (news_new w1 _ _ _ rfl) (oneU _) (by omega) (by omega) (by have := own1.lt g1 rfl; simp; omega) ?_; intro g2 c2 w2 own2 hx2)
    | (at_builtin; refine wpl_app (by rfl) _ _ _ (by rfl) base 5 i0 _ 1 1 Tryz.underlying47 hi0 hz0 hz1 hz2 rfl (by omega) (.slice A m c) _ _ (by rfl) (hO.out.alloc _) w.heap.size 1 [.int .u8 (n / 16777216)] rfl (by rfl) (news_new w _ _ _ rfl) (oneU _) (by omega) (by omega) (by simp; omega) ?_; intro g1 c1 w1 own1 hx1))
  go_ret
  refine ⟨⟨_, rfl, ?_⟩, fun u hu hb => hx4 u hu (Ext.alloc (hx3 u hu (Ext.alloc (hx2 u hu (Ext.alloc (hx1 u hu (Ext.alloc hb _)) _)) _)) _)⟩
  show World.ownsRow _ _ _ _ _ _ (List.map _ (bs ++ [n / 16777216, n / 65536 % 256, n / 256 % 256, n % 256]))
  rw [HM.out]
  exact own4

theorem nodeI_bytes {a b : Int} (ha : vld a = true) (hb : vld b = true) : ([1] ++ fourI a ++ fourI b).map byteOf = nodeB a b := by
  have ha := vld_true ha
  have hb := vld_true hb
  rw [List.map_append, List.map_append, fourI_bytes ha.1 ha.2, fourI_bytes hb.1 hb.2]
  rfl
set_option maxRecDepth 100000 in
theorem RNodeBytes_any (a b : Int) (w : World) (ha : vld a = true) (hb : vld b = true) :
    Calls Tryz.prog 99 #[.int .i64 a, .int .i64 b] w fun e w' => e = .returned (.string ⟨(nodeB a b).toArray⟩) ∧ Ext w w' := by
  have HB := Lib.hid (nodeI_bytes ha hb)
  obtain ⟨a0, a1⟩ := vld_true ha
  obtain ⟨b0, b1⟩ := vld_true hb
  have own0 : (w.alloc (.cells #[.int .u8 1] 5)).ownsRow w.heap.size 5 1 (.slice (some ⟨w.heap.size, 0, none⟩) 1 1) 1 (([1] : List Int).map (Value.int .u8)) :=
    World.ownsRow_lit w #[.int .u8 1] 1 (Nat.le_refl _) (by simp [maxLen]) rfl
  clear ha hb
  go_enter Tryz.func99, Tryz.ntmps99
  go_wp2_with fail
  refine (RFour_any a _ w.heap.size 1 [1] _ a0 a1 (by simp) (by omega) own0).mono ?_
  rintro _ w1 ⟨⟨v1, rfl, own1⟩, hx1⟩
  have E1 := hx1 w (Nat.le_refl _) (by (repeat (with_reducible first | exact Ext.refl _ | assumption | refine Ext.drew ?_ | refine Ext.drewN ?_ _ | refine Ext.alloc ?_ _ | refine Ext.trans ?_ (by with_reducible assumption))))
  have hs1 := E1.size
  clear own0 hx1
  replace own1 : w1.ownsRow w.heap.size 5 1 v1 5 (([1] ++ fourI a).map (Value.int .u8)) := own1
  obtain ⟨g1, c1, rfl, -⟩ := World.ownsRow.form own1 (by omega)
  go_wp2_with fail
  refine (RFour_any b _ w.heap.size 5 ([1] ++ fourI a) _ b0 b1 hs1 (by omega) own1).mono ?_
  rintro _ w2 ⟨⟨v2, rfl, own2⟩, hx2⟩
  have E2 := hx2 w (Nat.le_refl _) E1
  replace own2 : w2.ownsRow w.heap.size 5 1 v2 9 (([1] ++ fourI a ++ fourI b).map (Value.int .u8)) := own2
  obtain ⟨A2, c2, rfl, hc2, R2, -⟩ := own_rd own2
  obtain ⟨ad, rfl, -, -⟩ := R2.2.2 (by omega)
  have hconv := conv_rd R2 (by omega)
  rw [HB.out] at hconv
  clear own1 own2 hx2 R2
  go_wp2_with fail
  go_ret
  exact ⟨rfl, E2⟩
theorem RNode_any (a b : Int) (w : World) (ha : vld a = true) (hb : vld b = true) :
    Calls Tryz.prog 70 #[.int .i64 a, .int .i64 b] w fun e w' => e = .returned (.int .i64 (nodeL a b)) ∧ Ext w w' := by
  go_enter Tryz.func70, Tryz.ntmps70
  go_wp2_with fail
  refine (RNodeBytes_any _ _ _ ha hb).mono ?_
  rintro e w1 ⟨rfl, hb1⟩
  have hl := size_mk (nodeB a b)
  rw [nodeB_len] at hl
  have HN : Hid (sumL (⟨(nodeB a b).toArray⟩ : ByteArray).data.toList = nodeL a b) := rfl
  generalize (⟨(nodeB a b).toArray⟩ : ByteArray) = x at *
  go_wp2_with fail
  refine (RSum_any _ _ (by simp only [maxLen]; omega)).mono ?_
  rintro e w2 ⟨rfl, rfl⟩
  rw [HN.out]
  go_wp2_with fail
  go_ret
  exact ⟨rfl, by (repeat (with_reducible first | exact Ext.refl _ | assumption | refine Ext.drew ?_ | refine Ext.drewN ?_ _ | refine Ext.alloc ?_ _ | refine Ext.trans ?_ (by with_reducible assumption)))⟩

set_option maxRecDepth 100000 in
set_option maxHeartbeats 1000000 in
theorem RRoot_any (N : Nat) : ∀ (A : Option Addr) (n c : Nat) (xs : List Int) (w : World), n ≤ N → Rd w 1 A n c (xs.map (Value.int .i64)) → c ≤ maxLen → n ≤ 4096 → allV xs = true →
    Calls Tryz.prog 39 #[.slice A n c] w fun e w' => e = .returned (.int .i64 (ofL xs)) ∧ Ext w w' := by
  induction N with
  | zero =>
    intro A n c xs w hN hr hm hn hv
    obtain rfl : n = 0 := by omega
    obtain rfl : xs = [] := List.eq_nil_of_length_eq_zero (by simpa using hr.1)
    clear hr hm hv
    go_enter Tryz.func39, Tryz.ntmps39
    go_wp2_with fail
    refine (RSum_any _ _ (by first | omega | ((try simp only [size_cat]); (try simp only [size_mk]); (try simp only [List.length_append]); (try simp only [List.length_cons]); (try simp only [List.length_nil]); (try unfold maxLen); omega))).mono ?_
    rintro e w1 ⟨rfl, rfl⟩
    go_wp2_with fail
    go_ret
    exact ⟨ret_int ofL_nil.symm, by (repeat (with_reducible first | exact Ext.refl _ | assumption | refine Ext.drew ?_ | refine Ext.drewN ?_ _ | refine Ext.alloc ?_ _ | refine Ext.trans ?_ (by with_reducible assumption)))⟩
  | succ N ih =>
    intro A n c xs w hN hr hm hn hv
    have hx : xs.length = n := by simpa using hr.1
    have IH := Lib.hid ih
    clear ih
    by_cases h2 : 2 ≤ n
    · have hl : n ≤ c := hr.2.1
      have hk := half_lt h2 hn
      have hk' := half_le h2 hn
      have hk0 := half_pos n
      have HO := Lib.hid (ofL_node (xs := xs) (by omega) (by omega))
      have v1 := vld_ofL (allV_take hv (half n)) (by rw [List.length_take]; omega)
      have v2 := vld_ofL (allV_drop hv (half n)) (by rw [List.length_drop]; omega)
      have V1 := Lib.hid v1
      have V2 := Lib.hid v2
      have HX := Lib.hid hx
      have R1 := hr.takeI (k := half n) (by omega)
      have R2 := hr.dropI' (k := half n) (by omega)
      clear hx v1 v2
      unfold maxLen at hm
      have e1 : ((n : Int) == 0) = false := by simp; omega
      have e2 : ((n : Int) == 1) = false := by simp; omega
      have q1 : (half n : Int) ≤ (n : Int) := by omega
      have q2 : (half n : Int) ≤ (c : Int) := by omega
      go_enter Tryz.func39, Tryz.ntmps39
      go_wp2_with fail
      refine (RHalf_any n _ (by omega) hn).mono ?_
      rintro e w' ⟨rfl, rfl⟩
      go_wp2_with fail
      refine (IH.out A (half n) c _ _ (by omega) R1 (by simp only [maxLen]; omega) (by omega) (allV_take hv (half n))).mono ?_
      rintro _ w1 ⟨rfl, hb1⟩
      go_wp2_with fail
      refine (IH.out _ _ _ _ _ (by omega) (R2.ext hb1) (by simp only [maxLen]; omega) (by omega) (allV_drop hv (half n))).mono ?_
      rintro _ w2 ⟨rfl, hb2⟩
      go_wp2_with fail
      refine (RNode_any _ _ _ V1.out V2.out).mono ?_
      rintro _ w3 ⟨rfl, hb3⟩
      go_wp2_with fail
      go_ret
      exact ⟨ret_int (by rw [HO.out, HX.out]), by (repeat (with_reducible first | exact Ext.refl _ | assumption | refine Ext.drew ?_ | refine Ext.drewN ?_ _ | refine Ext.alloc ?_ _ | refine Ext.trans ?_ (by with_reducible assumption)))⟩
    · have h01 : n = 0 ∨ n = 1 := by omega
      clear h2
      rcases h01 with rfl | rfl
      · obtain rfl : xs = [] := List.eq_nil_of_length_eq_zero (by simpa using hr.1)
        clear hr hm hv hx
        go_enter Tryz.func39, Tryz.ntmps39
        go_wp2_with fail
        refine (RSum_any _ _ (by first | omega | ((try simp only [size_cat]); (try simp only [size_mk]); (try simp only [List.length_append]); (try simp only [List.length_cons]); (try simp only [List.length_nil]); (try unfold maxLen); omega))).mono ?_
        rintro e w1 ⟨rfl, rfl⟩
        go_wp2_with fail
        go_ret
        exact ⟨ret_int ofL_nil.symm, by (repeat (with_reducible first | exact Ext.refl _ | assumption | refine Ext.drew ?_ | refine Ext.drewN ?_ _ | refine Ext.alloc ?_ _ | refine Ext.trans ?_ (by with_reducible assumption)))⟩
      · obtain ⟨x, rfl⟩ : ∃ x, xs = [x] := List.length_eq_one_iff.1 hx
        obtain ⟨ad, rfl, hb, hcell⟩ := hr.at_ (j := 0) (u := .int .i64 x) rfl
        have HO := Lib.hid (ofL_one x)
        rw [add_zero'] at hcell
        clear hr hv hx
        go_enter Tryz.func39, Tryz.ntmps39
        go_wp2_with fail
        go_ret
        exact ⟨ret_int HO.out.symm, by (repeat (with_reducible first | exact Ext.refl _ | assumption | refine Ext.drew ?_ | refine Ext.drewN ?_ _ | refine Ext.alloc ?_ _ | refine Ext.trans ?_ (by with_reducible assumption)))⟩
end Go.Proofs.YtnphbkjkeipmmaaGreatDoor

/- The references' tiles. -/
namespace Go.Proofs.YtnphbkjkeipmmaaGreatDoor
open Go.RowKit Go.WideShapes
set_option linter.unusedVariables false
attribute [local go_sem ↓] Go.wp_at_zero Go.wp_at_succ

theorem RPower_any (k : Nat) (w : World) (hk : k ≤ 3) :
    Calls Tryz.prog 71 #[.int .i64 k] w fun e w' => e = .returned (.int .i64 (4 ^ k : Nat)) ∧ w = w' := by
  obtain ⟨r, hr⟩ : ∃ r, r = 4 ^ k := ⟨_, rfl⟩
  rw [← hr]
  have HR := Lib.hid hr
  clear hr
  go_enter Tryz.func71, Tryz.ntmps71
  go_wp2_with fail
  go_loop [3, 4] (fun a x => ∃ (q j : Nat), a = .int .i64 q ∧ x = .int .i64 j ∧ j ≤ k ∧ q ≤ 64 ∧ Hid (q = 4 ^ j)) (fun _ x => k - (intOf x).toNat)
  case atStart => exact ⟨1, 0, rfl, rfl, Nat.zero_le _, by omega, rfl⟩
  case round =>
    obtain ⟨q, j, rfl, rfl, hj, hq, HQ⟩ := hrel
    by_cases hc : j < k
    · have hq4 : q * 4 ≤ 64 := by
        have := pow4_le (k := j + 1) (by omega)
        rw [Nat.pow_succ] at this
        rw [HQ.out]; exact this
      go_wp2_with fail
      go_round
      case rel => exact ⟨q * 4, j + 1, by go_num, by go_num, by omega, hq4, by show _ = _; rw [HQ.out, Nat.pow_succ]⟩
      case measure => simp [intOf]; omega
    · obtain rfl : j = k := by omega
      go_wp2_with fail
      go_ret
      exact ⟨ret_int (by rw [HR.out, HQ.out]), rfl⟩

theorem tileAt_cells (q k j : Nat) (h4 : 4 ≤ q - 4 * j) : (tileAt q k j).cells = [.int .i64 k, .int .i64 j, .int .i64 4] := by
  unfold tileAt Tl.cells
  have : min 4 ((q : Int) - (j : Int) * 4) = 4 := by omega
  rw [this]
theorem tileAt_cells' (q k j l : Nat) (h : q = 4 * j + l) (h4 : l < 4) : (tileAt q k j).cells = [.int .i64 k, .int .i64 j, .int .i64 l] := by
  unfold tileAt Tl.cells
  have : min 4 ((q : Int) - (j : Int) * 4) = l := by omega
  rw [this]

set_option maxRecDepth 100000 in
set_option maxHeartbeats 2000000 in
theorem RTiles_any (s : Nat) (w : World) (hs : s ≤ 200) :
    Calls Tryz.prog 43 #[.int .i64 s] w fun e w' => (∃ v, e = .returned v ∧ OwnT w w' v (allT s 4)) ∧ Ext w w' := by
  have HL := Lib.hid (allT_len s hs)
  obtain ⟨i0, hi0, hz0, hz1, hz2⟩ := info_parts info_tile
  go_enter Tryz.func43, Tryz.ntmps43
  go_wp2_with fail
  go_loopg [3, 4] 4 (fun g v kk wr => ∃ k : Nat, k + g = 4 ∧ kk = .int .i64 k ∧ Hid (OwnT w wr v (allT s k)) ∧ Ext w wr)
  case atStart => exact ⟨0, rfl, rfl, own_nil _ _ _ _, by (repeat (with_reducible first | exact Ext.refl _ | assumption | refine Ext.drew ?_ | refine Ext.drewN ?_ _ | refine Ext.alloc ?_ _ | refine Ext.trans ?_ (by with_reducible assumption)))⟩
  case round =>
    obtain ⟨k, hg, rfl, hown, hbw⟩ := hrel
    by_cases hc : k < 4
    · have hq := div4_le s k
      have hp4 := pow4_le (k := k) (by omega)
      have hp1 : 1 ≤ 4 ^ k := Nat.one_le_pow _ _ (by omega)
      have HQ : Hid ((s : Int) / ((4 ^ k : Nat) : Int) = ((s / 4 ^ k : Nat) : Int)) := (Int.natCast_ediv s (4 ^ k)).symm
      have HE : Hid (allT s (k + 1) = allT s k ++ tilesAt (s / 4 ^ k) k) := rfl
      go_wp2_with fail
      refine (RPower_any k _ (by omega)).mono ?_
      rintro e w' ⟨rfl, rfl⟩
      generalize s / 4 ^ k = q at *
      generalize 4 ^ k = p at *
      have hdv : (s : Int) / (p : Int) = (q : Int) := HQ.out
      go_upto_region 6 with (fail)
      clear hdv
      go_wp2_with fail
      go_loopg [3, 5, 6] ((q + 3) / 4) (fun g2 v l i wr => ∃ j t : Nat, j + g2 = (q + 3) / 4 ∧ i = .int .i64 j ∧ l = .int .i64 t ∧ t = q - 4 * j ∧ Hid (OwnT w wr v (allT s k ++ (tilesAt q k).take j)) ∧ Ext w wr)
      case atStart => exact ⟨0, q, by omega, rfl, by first | rfl | go_num, by omega, by show OwnT _ _ _ _; simpa using hown.out, hbw⟩
      case round =>
        obtain ⟨j, t, hg2, rfl, rfl, ht, hown2, hbw2⟩ := hrel
        by_cases hc2 : 0 < t
        · have hl2 : (allT s k ++ (tilesAt q k).take j).length ≤ 1000 := by
            rw [List.length_append, List.length_take]
            have := HL.out k
            omega
          have HT : Hid (allT s k ++ (tilesAt q k).take (j + 1) = (allT s k ++ (tilesAt q k).take j) ++ [tileAt q k j]) := by show _ = _; rw [tilesAt_take q k j (by omega), List.append_assoc]
          generalize allT s k ++ (tilesAt q k).take j = L at *
          by_cases h4 : t < 4
          · have HC := Lib.hid (tileAt_cells' q k j t (by omega) h4)
            have ht1 : q ≤ 4 * j + t := by omega
            have ht2 : 4 * j + t ≤ q := by omega
            clear ht
            go_wp2_with (at_builtin; refine wpl_app (by rfl) _ _ _ (by rfl) w.heap.size 100 i0 _ 3 24 Tryz.underlying97 hi0 hz0 hz1 hz2 rfl (by omega) _ _ _ (by rfl) ((hown2.out).alloc _) wr.heap.size 1 [.int .i64 k, .int .i64 j, .int .i64 t] rfl (by rfl) (news_new wr _ _ _ rfl) (by rw [← HC.out]; exact oneT _) (by omega) (by omega) (by have := hbw2.size; simp; omega) ?_; intro g cap w3 own3 hext3)
            rw [← HC.out] at own3
            go_roundg ((q + 3) / 4 - (j + 1))
            case measure => omega
            case rel => exact ⟨j + 1, 0, by omega, by go_num, by go_num, by omega, OwnT.mk own3 (by rw [HT.out]; simp) (by rw [HT.out]; simp [List.flatMap_append]), hext3 _ (Nat.le_refl _) (by (repeat (with_reducible first | exact Ext.refl _ | assumption | refine Ext.drew ?_ | refine Ext.drewN ?_ _ | refine Ext.alloc ?_ _ | refine Ext.trans ?_ (by with_reducible assumption))))⟩
          · have HC := Lib.hid (tileAt_cells q k j (by omega))
            have ht1 : q ≤ 4 * j + t := by omega
            have ht2 : 4 * j + t ≤ q := by omega
            clear ht
            go_wp2_with (at_builtin; refine wpl_app (by rfl) _ _ _ (by rfl) w.heap.size 100 i0 _ 3 24 Tryz.underlying97 hi0 hz0 hz1 hz2 rfl (by omega) _ _ _ (by rfl) ((hown2.out).alloc _) wr.heap.size 1 [.int .i64 k, .int .i64 j, .int .i64 4] rfl (by rfl) (news_new wr _ _ _ rfl) (by rw [← HC.out]; exact oneT _) (by omega) (by omega) (by have := hbw2.size; simp; omega) ?_; intro g cap w3 own3 hext3)
            rw [← HC.out] at own3
            go_roundg ((q + 3) / 4 - (j + 1))
            case measure => omega
            case rel => exact ⟨j + 1, t - 4, by omega, by go_num, by go_num, by omega, OwnT.mk own3 (by rw [HT.out]; simp) (by rw [HT.out]; simp [List.flatMap_append]), hext3 _ (Nat.le_refl _) (by (repeat (with_reducible first | exact Ext.refl _ | assumption | refine Ext.drew ?_ | refine Ext.drewN ?_ _ | refine Ext.alloc ?_ _ | refine Ext.trans ?_ (by with_reducible assumption))))⟩
        · obtain rfl : t = 0 := by omega
          have hq0 : q ≤ 4 * j := by omega
          clear ht
          go_wp2_with fail
          go_roundg (3 - k)
          case measure => omega
          case rel => exact ⟨k + 1, by omega, by go_num, (by have := hown2.out; rw [tilesAt_all q k j (by omega)] at this; show OwnT _ _ _ _; rw [HE.out]; exact this), hbw2⟩
    · obtain rfl : k = 4 := by omega
      go_wp2_with fail
      go_ret
      exact ⟨⟨_, rfl, hown.out⟩, hbw⟩

set_option maxRecDepth 100000 in
set_option maxHeartbeats 2000000 in
theorem RTileSums_any (A : Option Addr) (n c : Nat) (xs : List Int) (k i m : Nat) (w : World) (hr : Rd w 1 A n c (xs.map (Value.int .i64))) (hm : c ≤ maxLen) (hk : leafsOk xs) (hk3 : k ≤ 3) (hm4 : m ≤ 4) (hf : i * 4 + m ≤ n / 4 ^ k) :
    Calls Tryz.prog 44 #[.slice A n c, .agg #[.int .i64 k, .int .i64 i, .int .i64 m]] w fun e w' => (∃ v, e = .returned v ∧ OwnN w w' v (sumsT xs k i m)) ∧ Ext w w' := by
  have hx := hr.lenI
  have hn : n ≤ 200 := by have := hk.1; omega
  have hl := hr.2.1
  have hi : i ≤ 200 := by have := div4_le n k; omega
  have HX := Lib.hid hx
  clear hx
  obtain ⟨i0, hi0, hz0, hz1, hz2⟩ := info_parts info_int'
  obtain ⟨wb, hwb⟩ : ∃ wb, wb = w.alloc (.cells #[.int .i64 k, .int .i64 i, .int .i64 m] 100) := ⟨_, rfl⟩
  have B : Bk wb w.heap.size 100 #[.int .i64 k, .int .i64 i, .int .i64 m] := by rw [hwb]; exact Bk.at_ _ _ _ _ rfl
  have EB : Ext w wb := by rw [hwb]; exact Ext.alloc (Ext.refl w) _
  have hq4 := pow4_le hk3
  have hq1 : 1 ≤ 4 ^ k := Nat.one_le_pow _ _ (by omega)
  have q0 := B.cell 0
  go_enter Tryz.func44, Tryz.ntmps44
  go_wp2_with fail
  rw [← hwb]
  clear hwb
  refine (RPower_any k _ hk3).mono ?_
  rintro e w' ⟨rfl, rfl⟩
  obtain ⟨q, hq⟩ : ∃ q, q = 4 ^ k := ⟨_, rfl⟩
  rw [← hq] at hq4 hq1 ⊢
  have HQ := Lib.hid hq
  clear hq q0
  go_wp2_with fail
  go_loopw [5, 7] (fun v x wr => ∃ j' : Nat, x = .int .i64 j' ∧ j' ≤ m ∧ Hid (OwnN wb wr v (sumsT xs k i j')) ∧ Ext wb wr) (fun _ x _ => m - (intOf x).toNat)
  case atStart => exact ⟨0, rfl, Nat.zero_le _, own_nil _ _ _ _, by (repeat (with_reducible first | exact Ext.refl _ | assumption | refine Ext.drew ?_ | refine Ext.drewN ?_ _ | refine Ext.alloc ?_ _ | refine Ext.trans ?_ (by with_reducible assumption)))⟩
  case round =>
    obtain ⟨j', rfl, hj', hown, hbw⟩ := hrel
    have BR := B.ext hbw
    have r1 := BR.cell 1
    have r2 := BR.cell 2
    by_cases hc2 : j' < m
    · have hfit := fits hf hc2
      have HS : Hid (sumsT xs k i (j' + 1) = sumsT xs k i j' ++ [ofL ((xs.take ((i * 4 + j') * 4 ^ k + 4 ^ k)).drop ((i * 4 + j') * 4 ^ k))]) := sumsT_snoc _ _ _ _
      have e1 : ((4 : Int) * (i : Int) + (j' : Int)) * (q : Int) = (((i * 4 + j') * 4 ^ k : Nat) : Int) := by rw [HQ.out]; push_cast; congr 1; omega
      rw [← HQ.out] at hfit HS e1
      have hlen := sumsT_len xs k i j'
      generalize (i * 4 + j') * q = f at *
      generalize sumsT xs k i j' = L at *
      have hcf : c ≠ f := by omega
      have hR := Rd_part (hr.ext (EB.trans hbw)) (i := f) (j := f + q) (by omega) (by omega)
      rw [if_neg hcf, Nat.add_sub_cancel_left] at hR
      have hva := allV_drop (allV_take hk.2 (f + q)) f
      have f1 : (0 : Int) ≤ (f : Int) := by omega
      have f2 : (f : Int) + (q : Int) ≤ (c : Int) := by omega
      have f3 : (f : Int) ≤ (c : Int) := by omega
      have f4 : (f : Int) ≤ (f : Int) + (q : Int) := by omega
      have f5 : f + q ≤ 200 := by omega
      have f6 : (f : Int) + (q : Int) - (f : Int) = (q : Int) := by omega
      have hbw0 := hbw.size
      go_wp2_with fail
      refine (RRoot_any q _ q (c - f) _ _ (Nat.le_refl _) hR (by omega) (by omega) hva).mono ?_
      rintro e w1 ⟨rfl, hb1⟩
      generalize ofL ((xs.take (f + q)).drop f) = z at *
      have hl2 : L.length ≤ 4 := by omega
      have hbw1 := hb1.size
      clear hlen r1 r2
      go_wp2_with (at_builtin; refine wpl_app (by rfl) _ _ _ (by rfl) wb.heap.size 3 i0 _ 1 8 Tryz.underlying85 hi0 hz0 hz1 hz2 rfl (by omega) u5 _ _ (by rfl) ((own_ext hown.out hb1).alloc _) w1.heap.size 1 [.int .i64 z] rfl (by rfl) (news_new w1 _ _ _ rfl) (oneN _) (by omega) (by omega) (by simp; omega) ?_; intro g cap w3 own3 hext3)
      go_roundw
      case rel => exact ⟨j' + 1, by go_num, by omega, OwnN.mk own3 (by rw [HS.out]; simp) (by rw [HS.out]; simp), hext3 _ (Nat.le_refl _) (by (repeat (with_reducible first | exact Ext.refl _ | assumption | refine Ext.drew ?_ | refine Ext.drewN ?_ _ | refine Ext.alloc ?_ _ | refine Ext.trans ?_ (by with_reducible assumption))))⟩
      case measure => simp [intOf]; omega
    · obtain rfl : j' = m := by omega
      go_wp2_with fail
      go_ret
      exact ⟨⟨_, rfl, own_lower hown.out EB.size⟩, EB.trans (by (repeat (with_reducible first | exact Ext.refl _ | assumption | refine Ext.drew ?_ | refine Ext.drewN ?_ _ | refine Ext.alloc ?_ _ | refine Ext.trans ?_ (by with_reducible assumption))))⟩
end Go.Proofs.YtnphbkjkeipmmaaGreatDoor
