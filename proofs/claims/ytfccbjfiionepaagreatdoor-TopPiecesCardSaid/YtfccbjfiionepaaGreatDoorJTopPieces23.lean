/- tile.Root by the law's own 'get'. -/
import Derived.Test.YtfccbjfiionepaaGreatDoorJTopPieces22
import Derived.Test.YtfccbjfiionepaaGreatDoorJTopPieces17
import Derived.Deep.RegionLaw
import Derived.Test.YtfccbjfiionepaaGreatDoorJTopPieces8
import Derived.Test.YtfccbjfiionepaaGreatDoorJTopPieces3
import Derived.Test.YtfccbjfiionepaaGreatDoorJTopPieces4
import Derived.Deep.RegionHeld3
import Derived.Deep.DrawnRows
import Derived.Deep.LoopGhost
import Derived.Test.YtfccbjfiionepaaGreatDoorJTopPieces7
import Derived.Test.YtfccbjfiionepaaGreatDoorJTopPieces5
namespace Go.Proofs.YtfccbjfiionepaaGreatDoor
open Go.RowKit Go.WideShapes
set_option linter.unusedVariables false
attribute [local go_sem ↓] Go.wp_at_zero Go.wp_at_succ

/-! ### a 'get' that only asks tile.Sums -/
set_option maxRecDepth 100000 in
theorem Get3_ok (gl : Nat) (A : Option Addr) (n c : Nat) (xs : List Int) (k i m : Nat) (w : World) (hr : Rd w 1 A n c (xs.map (Value.int .i64))) (hm : c ≤ maxLen) (hk : leafsOk xs) (hk3 : k ≤ 3) (h1 : 1 ≤ m) (hm4 : m ≤ 4) (hf : i * 4 + m ≤ n / 4 ^ k)
    (Bl : Bk w gl 24 #[.slice A n c]) :
    Calls Tryz.prog 12 #[.agg #[.int .i64 k, .int .i64 i, .int .i64 m], .pointer (some ⟨gl, 0, none⟩)] w fun e w' => (∃ v, e = .returned (.tuple #[v, .nilIface]) ∧ OwnN w w' v (sumsT xs k i m)) ∧ Ext w w' := by
  have l2 := Bl.lt
  have b0 := Bl.cell 0
  go_enter Tryz.func12, Tryz.ntmps12
  go_wp2_with fail
  refine (TSums_ok A n c xs k i m _ (hr.ext (by (repeat (with_reducible first | exact Ext.refl _ | assumption | refine Ext.drew ?_ | refine Ext.drewN ?_ _ | refine Ext.alloc ?_ _ | refine Ext.trans ?_ (by with_reducible assumption))))) hm hk hk3 h1 hm4 hf).mono ?_
  rintro _ w2 ⟨⟨v, rfl, hv⟩, hb2⟩
  go_wp2_with fail
  go_ret2
  exact ⟨⟨_, rfl, own_lower hv (by simp)⟩, by (repeat (with_reducible first | exact Ext.refl _ | assumption | refine Ext.drew ?_ | refine Ext.drewN ?_ _ | refine Ext.alloc ?_ _ | refine Ext.trans ?_ (by with_reducible assumption)))⟩

/-- sums of a tile may be leafs -/
theorem sumsT_ok3 {xs : List Int} (hv : allV xs = true) (hl : xs.length ≤ 200) (k i m : Nat) (hm : m ≤ 4) : leafsOk (sumsT xs k i m) := by
  refine ⟨by rw [sumsT_len]; omega, ?_⟩
  unfold allV sumsT
  rw [List.all_eq_true]
  intro x hx
  rw [List.mem_map] at hx
  obtain ⟨j, _, rfl⟩ := hx
  exact vld_ofL (allV_drop (allV_take hv _) _) (by rw [List.length_drop, List.length_take]; omega)

theorem make_rows3 : ∀ W : World, (Instr.makeSlice 88 (.int .i64 4) (.int .i64 4)).run Tryz.prog W = .ok (.slice (some ⟨W.heap.size, 0, none⟩) 4 4) (W.alloc (.cells #[.slice none 0 0, .slice none 0 0, .slice none 0 0, .slice none 0 0] 24)) := fun _ => by kernel_rfl
theorem rows_new3 (w : World) (xs : List Int) : Rows4 3 24 (w.alloc (.cells #[.slice none 0 0, .slice none 0 0, .slice none 0 0, .slice none 0 0] 24)) w.heap.size (w.heap.size + 1) (fun _ => .slice none 0 0) (fun k => accT xs k []) where
  bk := Bk.at_ _ _ _ _ rfl
  lt := by omega
  le := by simp
  own := fun k hk => own_nil _ _ _ _
  apart := fun k k' g _ _ _ h => by simp [Value.ownBlock] at h

theorem troot_zero3 (gs : Nat) (w : World) :
    Calls Tryz.prog 43 #[.slice (some ⟨gs, 0, none⟩) 4 4, .int .i64 0, .int .i64 0] w fun e w' => e = .returned (.int .i64 (sumL [])) ∧ Ext w w' := by
  go_enter Tryz.func43, Tryz.ntmps43
  go_wp2_with fail
  refine (Sum_any _ _ (by first | omega | ((try simp only [size_cat]); (try simp only [size_mk]); (try simp only [List.length_append]); (try simp only [List.length_cons]); (try simp only [List.length_nil]); (try unfold maxLen); omega))).mono ?_
  rintro e w1 ⟨rfl, hb1⟩
  go_wp2_with fail
  go_ret
  exact ⟨rfl, by (repeat (with_reducible first | exact Ext.refl _ | assumption | refine Ext.drew ?_ | refine Ext.drewN ?_ _ | refine Ext.alloc ?_ _ | refine Ext.trans ?_ (by with_reducible assumption)))⟩
set_option maxRecDepth 100000 in
set_option maxHeartbeats 4000000 in
theorem TRoot3_ok (gl : Nat) (A : Option Addr) (n c : Nat) (xs : List Int) (w : World) (hr : Rd w 1 A n c (xs.map (Value.int .i64))) (hm : c ≤ maxLen) (hk : leafsOk xs)
    (Bl : Bk w gl 24 #[.slice A n c]) :
    Calls Tryz.prog 11 #[.int .i64 n, .func (.func 12) #[] #[.pointer (some ⟨gl, 0, none⟩)]] w fun e w' => e = .returned (.tuple #[.int .i64 (ofL xs), .nilIface]) ∧ Ext w w' := by
  have hx := hr.lenI
  have hn : n ≤ 200 := by have := hk.1; omega
  obtain ⟨T, hT⟩ : ∃ T, T = allT n 4 := ⟨_, rfl⟩
  have hll := allT_len n hn 4
  rw [← hT] at hll
  have HM := Lib.hid (allT_mem n 4)
  rw [← hT] at HM
  have HTT := Lib.hid hT
  clear hT
  have HX := Lib.hid hx
  have HK := Lib.hid hk
  have l2 := Bl.lt
  have hAlt := hr.blk
  clear hx hk
  obtain ⟨i0, hi0, hz0, hz1, hz2⟩ := info_parts info_int'
  have hmk := make_rows3
  go_enter Tryz.func11, Tryz.ntmps11
  go_wp2_with fail
  refine (All_ok n _ (by omega) (by omega)).mono ?_
  rintro _ w1 ⟨⟨v1, rfl, hv1⟩, hb1⟩
  rw [Int.toNat_natCast, ← HTT.out] at hv1
  obtain ⟨A1, c1, rfl, hc1, R1, _⟩ := own_rd hv1
  have hA1 := own_addr hv1
  clear hv1
  go_wp2_with fail
  have HR0 := rows_new3 w1 xs
  have hA1' : ∀ ad, A1 = some ad → 0 < T.length → ad.block < w1.heap.size := fun ad h h0 => by
    obtain ⟨ad', e, h2, _⟩ := R1.2.2 h0
    rw [h] at e
    obtain rfl : ad = ad' := by injection e
    exact h2
  have RT := R1.ext (Ext.alloc (Ext.refl w1) (.cells #[.slice none 0 0, .slice none 0 0, .slice none 0 0, .slice none 0 0] 24))
  have E1 : Ext w (w1.alloc (.cells #[.slice none 0 0, .slice none 0 0, .slice none 0 0, .slice none 0 0] 24)) := by (repeat (with_reducible first | exact Ext.refl _ | assumption | refine Ext.drew ?_ | refine Ext.drewN ?_ _ | refine Ext.alloc ?_ _ | refine Ext.trans ?_ (by with_reducible assumption)))
  have hs1 := hb1.size
  have hsz : (w1.alloc (.cells #[.slice none 0 0, .slice none 0 0, .slice none 0 0, .slice none 0 0] 24)).heap.size = w1.heap.size + 1 := by simp
  generalize w1.heap.size = gs at *
  generalize w1.alloc (.cells #[.slice none 0 0, .slice none 0 0, .slice none 0 0, .slice none 0 0] 24) = w2 at *
  clear R1 hb1 hmk
  go_loopw [24] (fun x wr => ∃ (j : Nat) (vs : Nat → Value) (L : Nat → List Int), x = .int .i64 j ∧ j ≤ T.length ∧ Ext w wr ∧ Bk wr gl 24 #[.slice A n c] ∧ Rd wr 1 A n c (xs.map (Value.int .i64)) ∧ Rd wr 3 A1 T.length c1 (T.flatMap Tl.cells) ∧ Rows4 3 24 wr gs (gs + 1) vs L ∧ Hid (∀ k, k < 4 → L k = accT xs k (T.take j))) (fun x _ => T.length - (intOf x).toNat)
  case atStart => exact ⟨0, _, _, rfl, Nat.zero_le _, E1, Bl.ext E1, hr.ext E1, RT, HR0, fun k _ => rfl⟩
  case round =>
    clear Bl hr RT HR0
    obtain ⟨j, vs, L, rfl, hj, hgb, Bl, Rl, RT, HR, HL⟩ := hrel
    by_cases hc : j < T.length
    · have hgj := List.getElem?_eq_getElem (l := T) (i := j) hc
      obtain ⟨k, i, m, k1, k2, k3, k4, k5⟩ := HM.out _ (List.mem_of_getElem? hgj)
      obtain ⟨ad, rfl, hb, d0, d1, d2⟩ := RT.getT hgj
      rw [k2] at hgj d0 d1 d2
      have lgs : gs < wr.heap.size := HR.bk.lt
      have EA : Ext wr (wr.alloc (.cells #[.int .i64 k, .int .i64 i, .int .i64 m] 36)) := by (repeat (with_reducible first | exact Ext.refl _ | assumption | refine Ext.drew ?_ | refine Ext.drewN ?_ _ | refine Ext.alloc ?_ _ | refine Ext.trans ?_ (by with_reducible assumption)))
      have BT : Bk (wr.alloc (.cells #[.int .i64 k, .int .i64 i, .int .i64 m] 36)) wr.heap.size 36 #[.int .i64 k, .int .i64 i, .int .i64 m] := Bk.at_ _ _ _ _ rfl
      have hbA : ad.block < gs := hA1' ad rfl (by omega)
      have hbA2 : w.heap.size ≤ ad.block := hA1 ad rfl
      have hgs0 : gs < (wr.alloc (.cells #[.int .i64 k, .int .i64 i, .int .i64 m] 36)).heap.size := EA.lt lgs
      go_wp2_with fail
      refine (Get3_ok gl A n c xs k i m _ (Rl.ext EA) hm HK.out (by omega) k3 k4 k5 (Bl.ext EA)).mono ?_
      rintro _ w3 ⟨⟨v3, rfl, own3⟩, hg3⟩
      have hg3r := EA.trans hg3
      have hgb3 := hgb.trans hg3r
      have Bl3 := Bl.ext hg3r
      have Rl3 := Rl.ext hg3r
      have RT3 := RT.ext hg3r
      have HR3 := HR.ext hg3r
      have BT3 := BT.ext hg3
      have hsum := sumsT_ok3 HK.out.2 (by rw [HX.out]; omega) k i m k4
      have hsl := sumsT_len xs k i m
      have HACC : Hid (∀ k', k' < 4 → accT xs k' (T.take (j + 1)) = if k' = k then L k ++ sumsT xs k i m else L k') := fun k' hk' => by
        rw [List.take_succ_eq_append_getElem hc, k2, accT_append]
        by_cases hkk : k' = k
        · subst hkk; rw [if_pos rfl, accT_same, HL.out k' hk']
        · rw [if_neg hkk, accT_other _ _ _ hkk, List.append_nil, HL.out k' hk']
      have hLl : (L k).length ≤ 200 := by rw [HL.out k k1, HTT.out]; exact accT_bound xs n k hn j
      obtain ⟨A3, c3, rfl, hc3, R3, _⟩ := own_rd own3
      rw [hsl] at R3
      rw [hsl]
      have hsz3 := hg3.size
      have l3 : wr.heap.size < w3.heap.size := by simp at hsz3; omega
      have hob : Hid (∀ g, (vs k).ownBlock = some g → gs + 1 ≤ g ∧ g < wr.heap.size) := (HR.own k k1).lt
      clear EA BT own3 hg3 hg3r hgb Bl Rl RT HR d0 d1 d2 k2 hsz3
      have HS := Lib.hid hsum
      have HSL := Lib.hid hsl
      generalize sumsT xs k i m = ys at *
      clear hsum hsl
      go_wp2_with fail
      refine (TCheck_ok A3 m c3 ys _ R3 hc3 (by omega) HS.out.2).mono ?_
      rintro _ w' ⟨rfl, rfl⟩
      have t0 := BT3.cell 0
      have t2 := BT3.cell 2
      have hadd : ∃ ad3, A3 = some ad3 ∧ ∀ j u, (ys.map (Value.int .i64))[j]? = some u → w3.cell? (ad3.add j) = some u := by
        obtain ⟨ad3, e, _, h⟩ := R3.2.2 (by omega)
        exact ⟨ad3, e, h⟩
      obtain ⟨ad3, rfl, hnews⟩ := hadd
      have HN := Lib.hid hnews
      have h1c : Hid (∀ u ∈ ys.map (Value.int .i64), u.oneCell' = true) := by
        intro u hu
        rw [List.mem_map] at hu
        obtain ⟨x, _, rfl⟩ := hu
        rfl
      clear hnews
      go_wp2_with fail
      have g0 : w3.cell? ⟨gs, k, none⟩ = some (vs k) := (HR3.bk.cell k).trans (rowsA_get vs k k1)
      have T0 : Hid (w3.cell? ⟨wr.heap.size, 0, none⟩ = some (.int .i64 k)) := t0
      have G0 := Lib.hid g0
      have kI : (k : Int) < 4 := by omega
      clear t0 t2 g0
      have hne1 : Hid (some wr.heap.size ≠ (vs k).ownBlock) := fun e => by have := hob.out _ e.symm; omega
      have hne2 : Hid ((vs k).ownBlock ≠ some gs) := fun e => by have := hob.out _ e; omega
      have t0' := T0.out
      have g0' := G0.out
      go_region_law (refine step_apps (by rfl) _ _ _ (by rfl) (gs + 1) 3 i0 _ 1 8 Tryz.underlying24 hi0 hz0 hz1 hz2 rfl (by omega) (vs k) _ _ (by rfl) ((HR3.ext (by (repeat (with_reducible first | exact Ext.refl _ | assumption | refine Ext.drew ?_ | refine Ext.drewN ?_ _ | refine Ext.alloc ?_ _ | refine Ext.trans ?_ (by with_reducible assumption))))).own k k1) ad3 m c3 (ys.map (Value.int .i64)) (by rfl) (by rw [List.length_map, HSL.out, Nat.mul_one]) HN.out h1c.out (by omega) (by omega) (by omega) HR3.le ?_; intro g cap w4 own4 hg4 hH4 hlt4; have TW : w4.cell? ⟨wr.heap.size, 0, none⟩ = some (.int .i64 k) := hg4.cell (a := ⟨wr.heap.size, 0, none⟩) T0.out hne1.out; have GS4 : Bk w4 gs 24 (rowsA vs) := Bk.kept (HR3.bk.drew) hg4 hne2.out; have GW : w4.cell? ⟨gs, k, none⟩ = some (vs k) := (GS4.cell k).trans (rowsA_get vs k k1); have p1 := GS4.frozen k)
      all_goals
        have own4' : w4.ownsRow (gs + 1) 3 1 (.slice (some ⟨g, 0, none⟩) (L k ++ ys).length cap) (L k ++ ys).length ((L k ++ ys).map (Value.int .i64)) := by rw [List.length_append, HSL.out, List.map_append]; exact own4
        have HR4 := Rows4.add (HR3.ext (by (repeat (with_reducible first | exact Ext.refl _ | assumption | refine Ext.drew ?_ | refine Ext.drewN ?_ _ | refine Ext.alloc ?_ _ | refine Ext.trans ?_ (by with_reducible assumption))))) k1 own4' hg4 (hH4.imp id (fun h => Nat.le_of_eq h.symm))
        rw [show (L k ++ ys).length = (L k).length + m by rw [List.length_append, HSL.out]] at HR4
        have hr4 : ∀ b, (vs k).ownBlock = some b → gs ≤ b := fun b hb' => Nat.le_of_succ_le (hob.out b hb').1
        have hz4 := GS4.lt
        have hB1 : Below gs w3 w4 := ⟨hg4.os, hg4.tape, hg4.output, hg4.size, (below_gb (N := gs) hg4 (by simp; omega) hr4).block⟩
        have hB2 : Below gs w4 (w4.setCell ⟨gs, k, none⟩ (.slice (some ⟨g, 0, none⟩) ((L k).length + m) cap)) := below_gb (gb_set w4 gs k _) (by omega) (fun b hb' => by injection hb' with hb'; omega)
        have hB := below_trans hB1 hB2
        have hgb5 : Ext w _ := gb_none (gb_below (hgb3.gb none) hB hs1)
        have Bl5 := Bl3.below hB (by omega)
        have Rl5 := Rl3.below hB (fun h0 ad' had => by have := hAlt h0 ad' had; omega)
        have RT5 := RT3.below hB (fun h0 ad' had => by injection had with had; subst had; exact hbA)
        go_wp2_with fail
        go_roundw
        case rel => exact ⟨j + 1, _, _, by go_num, by omega, hgb5, Bl5, Rl5, RT5, HR4, fun k' hk' => by rw [HACC.out k' hk']; unfold upd; rfl⟩
        case measure => simp [intOf]; omega
    · obtain rfl : j = T.length := by omega
      have HF := Lib.hid fun (k : Nat) (hk : k < 4) => (by rw [HL.out k hk, List.take_length, HTT.out, accT_all, if_pos hk] : L k = rowT xs (n / 4 ^ k) k)
      have HRA : RowsAt wr gs n xs := ⟨HR.bk.lt, fun k hk => by
        have h := HR.own k hk
        rw [HF.out k hk, rowT_len] at h
        obtain ⟨A', c', e, h1, h2, _⟩ := own_rd h
        exact ⟨A', c', by rw [HR.bk.cell k, rowsA_get vs k hk, e], h1, h2⟩⟩
      by_cases h0 : n = 0
      · have hxs : xs = [] := List.eq_nil_of_length_eq_zero (by rw [HX.out]; exact h0)
        have HO : Hid (sumL [] = ofL xs) := by show _ = _; rw [hxs, ofL_nil]
        subst h0
        clear hxs
        go_wp2_with fail
        refine (troot_zero3 _ _).mono ?_
        rintro _ w5 ⟨rfl, hb5⟩
        rw [HO.out]
        go_wp2_with fail
        go_ret2
        exact ⟨rfl, hgb.trans hb5⟩
      · have HO : Hid (ofL (seg xs 0 n) = ofL xs) := by show _ = _; rw [← HX.out, seg_all]
        have HT := Lib.hid fun (W : World) (h : RowsAt W gs n xs) => troot_any gs n xs hn HX.out HK.out.2 n 0 n W (Nat.le_refl _) (by omega) (by omega) h
        go_wp2_with fail
        refine (HT.out _ HRA).mono ?_
        rintro _ w5 ⟨rfl, hb5⟩
        rw [HO.out]
        go_wp2_with fail
        go_ret2
        exact ⟨rfl, hgb.trans hb5⟩
end Go.Proofs.YtfccbjfiionepaaGreatDoor

/- Peaks: New, Append, Size. -/
namespace Go.Proofs.YtfccbjfiionepaaGreatDoor
open Go.RowKit Go.WideShapes
set_option linter.unusedVariables false
attribute [local go_sem ↓] Go.wp_at_zero Go.wp_at_succ

/-- a peaks' memory: the block, and the row of its parts (the last one is the smallest one) -/
structure PkS (w : World) (base pb : Nat) (v : Value) (n : Nat) (L : List Int) : Prop where
  le : base ≤ pb
  bk : Bk w pb 80 #[.int .i64 n, v]
  own : w.ownsRow base 3 1 v L.length (L.reverse.map (Value.int .i64))
  ne : v.ownBlock ≠ some pb
theorem PkS.ext {w w' : World} {base pb n : Nat} {v : Value} {L : List Int} (h : PkS w base pb v n L) (e : Ext w w') : PkS w' base pb v n L :=
  ⟨h.le, h.bk.ext e, own_ext h.own e, h.ne⟩
theorem own_pre {w : World} {base n k c : Nat} {e : TypeId} {A : Option Addr} {xs : List Value} (h : w.ownsRow base e 1 (.slice A n c) n xs) (hA : A ≠ none) (hk : k ≤ n) : w.ownsRow base e 1 (.slice A k c) k (xs.take k) := by
  obtain ⟨h1, h2⟩ := h
  rcases h2 with ⟨hv, _⟩ | ⟨g, cap, cur, hv, hg, hh, hn, hm, hs, ht⟩
  · injection hv with h1 h2 h3; exact absurd h1 hA
  · injection hv with e1 e2 e3
    subst e1; subst e3
    refine ⟨by rw [List.length_take, h1]; omega, .inr ⟨g, c, cur, rfl, hg, hh, by omega, hm, hs, ?_⟩⟩
    rw [← ht, List.take_take]
    congr 1
    omega

theorem PkS.last {w : World} {base pb n : Nat} {v : Value} {hd : Int} {tl : List Int} (h : PkS w base pb v n (hd :: tl)) :
    ∃ g cap, v = .slice (some ⟨g, 0, none⟩) (tl.length + 1) cap ∧ g ≠ pb ∧ g < w.heap.size ∧ w.cell? ⟨g, tl.length, none⟩ = some (.int .i64 hd) ∧ tl.length + 1 ≤ cap ∧ cap ≤ maxLen ∧ w.ownsRow base 3 1 (.slice (some ⟨g, 0, none⟩) tl.length cap) tl.length (tl.reverse.map (Value.int .i64)) := by
  obtain ⟨hle, hbk, hown, hne⟩ := h
  rcases hown.2 with ⟨hv, h0⟩ | ⟨g, cap, cur, rfl, hg, hh, hn, hm, r⟩
  · simp at h0
  · have hlt : g < w.heap.size := (Array.getElem?_eq_some_iff.1 hh).1
    have hc := hown.cells (g := g) rfl tl.length (.int .i64 hd) (by simp)
    rw [add_mk, Nat.zero_add] at hc
    refine ⟨g, cap, rfl, fun e => hne (by rw [e]; rfl), hlt, hc, hn, hm, ?_⟩
    have := own_pre hown (by simp) (Nat.le_succ tl.length)
    rwa [show ((hd :: tl).reverse.map (Value.int .i64)).take tl.length = tl.reverse.map (Value.int .i64) by
      rw [List.reverse_cons, List.map_append, List.take_append_of_le_length (by simp), List.take_of_length_le (by simp)]] at this
theorem info_intP : (Tryz.prog.info? 3).map (fun i => (i.zero, i.size, i.bytes)) = some (some (.int .i64 0), 1, 8) := by kernel_rfl
theorem and_one_i64 (m : Nat) (h : m ≤ 255) : bits BinOp.and IntKind.i64 (m : Int) 1 = ((m % 2 : Nat) : Int) := by
  have : ∀ k : Fin 256, bits BinOp.and IntKind.i64 ((k.val : Nat) : Int) 1 = ((k.val % 2 : Nat) : Int) := by decide +kernel
  exact this ⟨m, by omega⟩

set_option maxRecDepth 100000 in
theorem PNew_any (w : World) : Calls Tryz.prog 9 #[] w fun e w' => e = .returned (.pointer (some ⟨w.heap.size, 0, none⟩)) ∧ PkS w' w.heap.size w.heap.size (.slice none 0 0) 0 [] ∧ Ext w w' := by
  go_enter Tryz.func9, Tryz.ntmps9
  go_wp2_with fail
  go_ret
  exact ⟨rfl, ⟨Nat.le_refl _, Bk.at_ _ _ _ _ rfl, own_nil _ _ _ _, by simp [Value.ownBlock]⟩, by (repeat (with_reducible first | exact Ext.refl _ | assumption | refine Ext.drew ?_ | refine Ext.drewN ?_ _ | refine Ext.alloc ?_ _ | refine Ext.trans ?_ (by with_reducible assumption)))⟩
/-- what Append tells -/
def appK (n : Nat) (s : Int) : Int := if vld s = true then (if n < 200 then 0 else 4) else 1
set_option maxRecDepth 100000 in
theorem Append_bad {w : World} {base pb n : Nat} {v : Value} {L : List Int} (h : PkS w base pb v n L) (s : Int) (hv : ¬ (vld s = true ∧ n < 200)) :
    Calls Tryz.prog 10 #[.pointer (some ⟨pb, 0, none⟩), .int .i64 s] w fun e w' => e = .returned (errR (appK n s)) ∧ w = w' := by
  have b0 := h.bk.cell 0
  obtain ⟨k, HK⟩ : ∃ k, Hid (appK n s = k) := ⟨_, rfl⟩
  rw [HK.out]
  go_enter Tryz.func10, Tryz.ntmps10
  go_wp2_with fail
  refine (Valid_any _ _).mono ?_
  rintro _ _ ⟨rfl, rfl⟩
  have hk := HK.out
  unfold appK at hk
  cases hs : vld s
  · rw [hs, if_neg (by decide)] at hk
    subst hk
    clear hv HK hs
    go_wp2_with fail
    go_ret
    exact ⟨rfl, rfl⟩
  · have hn : ¬ n < 200 := fun h => hv ⟨hs, h⟩
    rw [hs, if_pos rfl, if_neg hn] at hk
    subst hk
    clear hv HK hs
    go_wp2_with fail
    go_ret
    exact ⟨rfl, rfl⟩

/-- blocks a and row alone were written -/
structure Two (w w' : World) (a : Nat) (row : Option Nat) : Prop where
  os : w'.os = w.os
  tape : w'.tape = w.tape
  output : w'.output = w.output
  size : w.heap.size ≤ w'.heap.size
  block : ∀ k, k < w.heap.size → k ≠ a → some k ≠ row → w'.heap[k]? = w.heap[k]?
theorem Two.of {w w1 w2 w3 : World} {a : Nat} {row : Option Nat} (h1 : w.grownBy w1 (some a)) (h2 : w1.grownBy w2 row) (h3 : w2.grownBy w3 (some a)) : Two w w3 a row :=
  ⟨h3.os.trans (h2.os.trans h1.os), h3.tape.trans (h2.tape.trans h1.tape), h3.output.trans (h2.output.trans h1.output), Nat.le_trans h1.size (Nat.le_trans h2.size h3.size), fun k hk ha hr =>
    ((h3.block k (Nat.lt_of_lt_of_le hk (Nat.le_trans h1.size h2.size)) (by simp [ha])).trans (h2.block k (Nat.lt_of_lt_of_le hk h1.size) hr)).trans (h1.block k hk (by simp [ha]))⟩
theorem Two.below {w w' : World} {a N : Nat} {row : Option Nat} (h : Two w w' a row) (hN : N ≤ w.heap.size) (ha : N ≤ a) (hr : ∀ g, row = some g → N ≤ g) : Below N w w' :=
  ⟨h.os, h.tape, h.output, h.size, fun k hk => h.block k (by omega) (by omega) (fun e => by have := hr k e.symm; omega)⟩

set_option maxRecDepth 100000 in
set_option maxHeartbeats 2000000 in
theorem Append_ok {w : World} {base pb : Nat} {v : Value} (xs : List Int) (h : PkS w base pb v xs.length (partsF xs 0 xs.length)) (hb : base ≤ w.heap.size) (hn : xs.length < 200) (hv : allV xs = true) (s : Int) (hs : vld s = true) :
    Calls Tryz.prog 10 #[.pointer (some ⟨pb, 0, none⟩), .int .i64 s] w fun e w' => e = .returned .nilIface ∧ ∃ v', PkS w' base pb v' (xs.length + 1) (partsF (xs ++ [s]) 0 (xs.length + 1)) ∧ Two w w' pb v.ownBlock ∧ (v'.ownBlock = v.ownBlock ∨ ∀ g, v'.ownBlock = some g → w.heap.size ≤ g) := by
  obtain ⟨n, HN⟩ : ∃ n, n = xs.length := ⟨_, rfl⟩
  rw [← HN] at h hn ⊢
  obtain ⟨ys, HY⟩ : ∃ ys, Hid (xs ++ [s] = ys) := ⟨_, rfl⟩
  have HYL : Hid (ys.length = n + 1) := by show _ = _; rw [← HY.out, List.length_append, HN]; rfl
  have HYV : Hid (allV ys = true) := by
    show _ = _
    rw [← HY.out]
    simp [allV] at hv ⊢
    exact ⟨hv, hs⟩
  have HY0 : Hid (ofL (seg ys (n * 2 ^ 0) (2 ^ 0)) = s) := by
    show _ = _
    have : seg ys (n * 2 ^ 0) (2 ^ 0) = [s] := by
      rw [Nat.pow_zero, Nat.mul_one, ← HY.out, HN]
      unfold seg
      rw [List.take_of_length_le (by simp), List.drop_left]
    rw [this, ofL_one]
  have HP0 : Hid (partsF xs 0 n = partsF ys 0 n) := by
    show _ = _
    rw [← HY.out, partsF_append xs [s] n 0 n (Nat.le_refl _) (by rw [Nat.pow_zero, Nat.mul_one, HN]; exact Nat.le_refl _)]
  rw [HP0.out] at h
  rw [HY.out]
  have b0 := h.bk.cell 0
  clear HN hv HP0 HY
  go_enter Tryz.func10, Tryz.ntmps10
  go_wp2_with fail
  refine (Valid_any _ _).mono ?_
  rintro _ _ ⟨rfl, rfl⟩
  rw [hs]
  go_wp2_with fail
  go_loopw [1, 5] (fun u x wr => ∃ (j m : Nat) (vj : Value), x = .int .i64 m ∧ u = .int .i64 (ofL (seg ys (m * 2 ^ j) (2 ^ j))) ∧ Hid ((m + 1) * 2 ^ j = n + 1) ∧ m ≤ n ∧ PkS wr base pb vj n (partsF ys j m) ∧ w.grownBy wr (some pb) ∧ vj.ownBlock = v.ownBlock) (fun _ x _ => (intOf x).toNat)
  case atStart =>
    exact ⟨0, n, v, rfl, by rw [HY0.out], by show _ = _; omega, Nat.le_refl _, h, (Ext.refl w).gb _, rfl⟩
  case round =>
    obtain ⟨j, m, vj, rfl, rfl, HJ, hm, hp, hg, ho⟩ := hrel
    by_cases hc : m % 2 = 1
    · have HO := Lib.hid (partsF_odd ys j hc)
      rw [HO.out] at hp
      obtain ⟨g, cap, rfl, hgp, hgl, hcl, hkc, hcm, hown⟩ := hp.last
      have b0 := hp.bk.cell 0
      have b1 := hp.bk.cell 1
      have f1 := hp.bk.frozen 1
      have hlt := hp.bk.lt
      have HST := Lib.hid (partsF_step (xs := ys) (j := j) (m := m) hc (by rw [HJ.out, HYL.out]; exact Nat.le_refl _) (by rw [HYL.out]; omega))
      have hand := and_one_i64 m (by omega)
      rw [hc] at hand
      generalize hhd : ofL (seg ys (m / 2 * 2 ^ (j + 1)) (2 ^ j)) = hd at *
      generalize htl : partsF ys (j + 1) (m / 2) = tl at *
      have hkl : tl.length ≤ 4096 := by rw [← htl, partsF_len ys m (j+1) (m/2) (by omega)]; have := ones_le m (m / 2) (by omega); omega
      have HHD : Hid (0 ≤ hd) := by
        show _ ≤ _
        rw [← hhd]
        exact (vld_true (vld_ofL (allV_seg HYV.out _ _) (by unfold seg; simp; rw [HYL.out]; omega))).1
      have HSM : Hid (0 ≤ ofL (seg ys (m * 2 ^ j) (2 ^ j))) := (vld_true (vld_ofL (allV_seg HYV.out _ _) (by unfold seg; simp; rw [HYL.out]; omega))).1
      generalize ofL (seg ys (m * 2 ^ j) (2 ^ j)) = sm at *
      have HTL : Hid (partsF ys (j + 1) (m / 2) = tl) := htl
      clear hhd htl
      go_wp2_with fail
      refine (NodeOf_any hd sm _ HHD.out HSM.out).mono ?_
      rintro _ w1 ⟨rfl, hb1⟩
      have hp1 := hp.ext hb1
      have hown1 := own_ext hown hb1
      have hlt1 := hp1.bk.lt
      clear b0 b1 f1
      have b0 := hp1.bk.cell 0
      have b1 := hp1.bk.cell 1
      have f1 := hp1.bk.frozen 1
      go_wp2_with fail
      go_roundw
      case rel =>
        refine ⟨j + 1, m / 2, .slice (some ⟨g, 0, none⟩) tl.length cap, by congr 1, by rw [HST.out.1], HST.out.2.trans HJ.out, by omega, ?_, ?_, ho⟩
        · rw [HTL.out]; refine ⟨hp1.le, hp1.bk.set_ 1 _, hown1.kept (gb_set _ _ _ _) (.inr (by simp [Value.ownBlock]; exact hgp)), by simp [Value.ownBlock]; exact hgp⟩
        · exact gb_trans (gb_ext hg hb1) (gb_set _ _ _ _)
      case measure => simp [intOf]; omega
    · obtain he : m % 2 = 0 := by omega
      have hand := and_one_i64 m (by omega)
      rw [he] at hand
      have hcmp : (bits BinOp.and IntKind.i64 (m : Int) 1 == 1) = false := by rw [hand]; rfl
      have HE := Lib.hid (partsF_end (xs := ys) (j := j) he)
      rw [HJ.out] at HE
      have b1 := hp.bk.cell 1
      have HSM : Hid (0 ≤ ofL (seg ys (m * 2 ^ j) (2 ^ j))) := (vld_true (vld_ofL (allV_seg HYV.out _ _) (by unfold seg; simp; rw [HYL.out]; omega))).1
      generalize ofL (seg ys (m * 2 ^ j) (2 ^ j)) = sm at *
      have hLL : (partsF ys j m).length ≤ 4096 := by rw [partsF_len ys m j m (Nat.le_refl _)]; have := ones_le m m (Nat.le_refl _); omega
      generalize partsF ys j m = L at *
      have hne := hp.ne
      have hbw : base ≤ wr.heap.size := Nat.le_trans hb hg.size
      obtain ⟨i0, hi0, hz0, hz1, hz2⟩ := info_parts info_intP
      have HP := Lib.hid hp
      have HA := Lib.hid (hp.bk.alloc (.cells #[.int .i64 sm] 3))
      go_wp2_with (at_builtin; refine wpl_apps (by rfl) _ _ _ (by rfl) base 3 i0 _ 1 8 Tryz.underlying24 hi0 hz0 hz1 hz2 rfl (by omega) vj _ _ (by rfl) (HP.out.own.alloc _) ⟨wr.heap.size, 0, none⟩ 1 1 [.int .i64 sm] (by rfl) (by rfl) (news_new wr _ _ _ rfl) (fun u hu => by simp at hu; subst hu; rfl) (by omega) (by omega) (by omega) (by simp; omega) ?_; intro g cap w3 own3 hg3 hH3 hlt3; have B3 := HA.out.kept hg3 hne; have b0 := B3.cell 0; have b1 := B3.cell 1; have f0 := B3.frozen 0; have f1 := B3.frozen 1; have hlt := B3.lt)
      have hgne : g ≠ pb := by
        rcases hH3 with e | e
        · intro e'; rw [e'] at e; exact hne e
        · have := HP.out.bk.lt
          simp at e
          omega
      go_ret
      refine ⟨rfl, .slice (some ⟨g, 0, none⟩) (L.length + 1) cap, ?_, ?_, ?_⟩
      · rw [← HE.out]
        refine ⟨HP.out.le, (B3.set_ 1 _).set_ 0 _, ?_, by simp [Value.ownBlock]; exact hgne⟩
        have o1 := own3.kept (gb_trans (gb_set w3 pb 1 (.slice (some ⟨g, 0, none⟩) (L.length + 1) cap)) (gb_set _ pb 0 (.int .i64 ((n : Int) + 1)))) (.inr (by simp [Value.ownBlock]; exact hgne))
        rw [List.reverse_cons, List.map_append]
        exact o1
      · rw [ho] at hg3
        exact Two.of (gb_alloc hg _) hg3 (gb_trans (gb_set _ _ _ _) (gb_set _ _ _ _))
      · rcases hH3 with e | e
        · left; rw [← ho, e]; rfl
        · right
          intro g' e'
          simp [Value.ownBlock] at e'
          have := hg.size
          simp at e
          omega
end Go.Proofs.YtfccbjfiionepaaGreatDoor

/- Peaks: Append both ways, Parts. -/
namespace Go.Proofs.YtfccbjfiionepaaGreatDoor
open Go.RowKit Go.WideShapes
set_option linter.unusedVariables false
attribute [local go_sem ↓] Go.wp_at_zero Go.wp_at_succ

def Pk (w : World) (base pb : Nat) (r : Option Nat) (xs : List Int) : Prop := ∃ v, v.ownBlock = r ∧ PkS w base pb v xs.length (partsF xs 0 xs.length)
theorem Pk.ext {w w' : World} {base pb : Nat} {r : Option Nat} {xs : List Int} (h : Pk w base pb r xs) (e : Ext w w') : Pk w' base pb r xs := by
  obtain ⟨v, h1, h2⟩ := h
  exact ⟨v, h1, h2.ext e⟩
def appX (xs : List Int) (s : Int) : List Int := if appK xs.length s = 0 then xs ++ [s] else xs
theorem Two.refl (w : World) (a : Nat) (r : Option Nat) : Two w w a r := ⟨rfl, rfl, rfl, Nat.le_refl _, fun _ _ _ _ => rfl⟩
theorem appK_zero {n : Nat} {s : Int} (h : vld s = true ∧ n < 200) : appK n s = 0 := by unfold appK; rw [if_pos h.1, if_pos h.2]
theorem appK_ne {n : Nat} {s : Int} (h : ¬ (vld s = true ∧ n < 200)) : appK n s ≠ 0 := by
  unfold appK
  by_cases h1 : vld s = true
  · rw [if_pos h1, if_neg (fun h2 => h ⟨h1, h2⟩)]; decide
  · rw [if_neg h1]; decide
theorem appX_yes {xs : List Int} {s : Int} (h : vld s = true ∧ xs.length < 200) : appX xs s = xs ++ [s] := if_pos (appK_zero h)
theorem appX_no {xs : List Int} {s : Int} (h : ¬ (vld s = true ∧ xs.length < 200)) : appX xs s = xs := if_neg (appK_ne h)
theorem appX_len {xs : List Int} {s : Int} (h : xs.length ≤ 200) : (appX xs s).length ≤ 200 := by
  by_cases hk : vld s = true ∧ xs.length < 200
  · rw [appX_yes hk]; simp; omega
  · rw [appX_no hk]; exact h
theorem appX_allV {xs : List Int} {s : Int} (h : allV xs = true) : allV (appX xs s) = true := by
  by_cases hk : vld s = true ∧ xs.length < 200
  · rw [appX_yes hk]
    have := hk.1
    simp [allV] at h ⊢
    exact ⟨h, this⟩
  · rw [appX_no hk]; exact h
theorem Append_any {w : World} {base pb : Nat} {r : Option Nat} {xs : List Int} (h : Pk w base pb r xs) (hb : base ≤ w.heap.size) (hv : allV xs = true) (s : Int) :
    Calls Tryz.prog 10 #[.pointer (some ⟨pb, 0, none⟩), .int .i64 s] w fun e w' => e = .returned (errR (appK xs.length s)) ∧ ∃ r', Pk w' base pb r' (appX xs s) ∧ Two w w' pb r ∧ (r' = r ∨ ∀ g, r' = some g → w.heap.size ≤ g) := by
  obtain ⟨v, rfl, hp⟩ := h
  by_cases hk : vld s = true ∧ xs.length < 200
  · refine (Append_ok xs hp hb hk.2 hv s hk.1).mono fun e w' hh => ?_
    obtain ⟨rfl, v', h1, h2, h3⟩ := hh
    rw [appX_yes hk, appK_zero hk]
    exact ⟨rfl, v'.ownBlock, ⟨v', rfl, by rw [List.length_append]; exact h1⟩, h2, h3⟩
  · refine (Append_bad hp s hk).mono fun e w' hh => ?_
    obtain ⟨rfl, rfl⟩ := hh
    rw [appX_no hk]
    exact ⟨rfl, _, ⟨v, rfl, hp⟩, Two.refl _ _ _, .inl rfl⟩
theorem PNew_pk (w : World) : Calls Tryz.prog 9 #[] w fun e w' => e = .returned (.pointer (some ⟨w.heap.size, 0, none⟩)) ∧ Pk w' w.heap.size w.heap.size none [] ∧ Ext w w' :=
  (PNew_any w).mono fun e w' hh => ⟨hh.1, ⟨_, rfl, by show PkS _ _ _ _ 0 (partsF [] 0 0); rw [partsF_zero]; exact hh.2.1⟩, hh.2.2⟩
/-- the row lies above -/
theorem Pk.row {w : World} {base pb : Nat} {r : Option Nat} {xs : List Int} (h : Pk w base pb r xs) : base ≤ pb ∧ ∀ g, r = some g → base ≤ g := by
  obtain ⟨v, rfl, hp⟩ := h
  exact ⟨hp.le, fun g hg => own_block hp.own g hg⟩
theorem Pk.step {w0 w w' : World} {base pb : Nat} {r : Option Nat} {xs : List Int} (h : Pk w base pb r xs) (hw : Ext w0 w) (hb : w0.heap.size ≤ base) (h2 : Two w w' pb r) : Ext w0 w' := by
  have h3 := h.row
  exact below_trans hw (h2.below (N := w0.heap.size) hw.size (Nat.le_trans hb h3.1) fun g hg => Nat.le_trans hb (h3.2 g hg))

/-- a copy -/
theorem Clone_own {w : World} {base : Nat} {v : Value} {ys : List Int} (h : w.ownsRow base 3 1 v ys.length (ys.map (Value.int .i64))) (hl : ys.length ≤ 4096) :
    Calls Tryz.prog 54 #[v] w fun e w' => (∃ v', e = .returned v' ∧ OwnI w w' v' ys) ∧ Ext w w' := by
  rcases h.2 with ⟨rfl, h0⟩ | ⟨g, cap, cur, rfl, hg, hh, hn, hm, r⟩
  · have : ys = [] := List.eq_nil_of_length_eq_zero h0
    subst this
    refine (Tryz.slices_Clone_int_nil 0 0 w).mono fun e w' hh => ?_
    obtain ⟨rfl, rfl⟩ := hh
    exact ⟨⟨_, rfl, own_nil _ _ _ _⟩, Ext.refl _⟩
  · have hc := h.cells (g := g) rfl
    refine (Tryz.slices_Clone_int g 0 ys.length cap ys w (Nat.le_refl _) (by omega) fun j hj => ?_).mono fun e w' hh => ?_
    · have := hc j (.int .i64 (ys.getD j 0)) (by rw [List.getElem?_map, List.getD_eq_getElem?_getD, List.getElem?_eq_getElem hj]; rfl)
      rwa [add_mk] at this
    · obtain ⟨v', rfl, h1, h2, h3⟩ := hh
      refine ⟨⟨v', rfl, ?_⟩, h3⟩
      rw [List.take_of_length_le (Nat.le_refl _)] at h1
      exact h1
end Go.Proofs.YtfccbjfiionepaaGreatDoor
