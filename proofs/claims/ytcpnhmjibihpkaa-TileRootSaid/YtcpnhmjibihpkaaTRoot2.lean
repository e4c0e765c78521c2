import Derived.Test.YtcpnhmjibihpkaaTRoot
import Derived.Deep.RegionLaw
namespace Go.Proofs.Ytcpnhmjibihpkaa
open Go.RowKit Go.WideShapes
set_option linter.unusedVariables false
attribute [local go_sem ↓] Go.wp_at_zero Go.wp_at_succ

/-! ### the law's own 'get': it counts, and asks tile.Sums -/
set_option maxRecDepth 100000 in
theorem Get_ok (ga gl : Nat) (A : Option Addr) (n c : Nat) (xs : List Int) (k i m a : Nat) (w : World) (hr : Rd w 1 A n c (xs.map (Value.int .i64))) (hm : c ≤ maxLen) (hk : leafsOk xs) (hk3 : k ≤ 3) (h1 : 1 ≤ m) (hm4 : m ≤ 4) (hf : i * 4 + m ≤ n / 4 ^ k) (ha : a ≤ 1000)
    (Ba : Bk w ga 3 #[.int .i64 a]) (Bl : Bk w gl 48 #[.slice A n c]) (hne : gl ≠ ga) (hA : 0 < n → ∀ ad, A = some ad → ga ≠ ad.block) :
    Calls Try.prog 41 #[.agg #[.int .i64 k, .int .i64 i, .int .i64 m], .pointer (some ⟨ga, 0, none⟩), .pointer (some ⟨gl, 0, none⟩)] w fun e w' => (∃ v, e = .returned (.tuple #[v, .nilIface]) ∧ OwnN w w' v (sumsT xs k i m)) ∧ w.grownBy w' (some ga) ∧ Bk w' ga 3 #[.int .i64 ((a + 1 : Nat) : Int)] := by
  have l1 := Ba.lt
  have l2 := Bl.lt
  have a0 := Ba.cell 0
  have a1 := Ba.frozen 0
  have b0 := Bl.cell 0
  go_enter Try.func41, Try.ntmps41
  go_wp2_with fail
  have hg := gb_set w ga 0 (.int .i64 ((a : Int) + 1))
  have B1 : Bk (w.setCell ⟨ga, 0, none⟩ (.int .i64 ((a : Int) + 1))) ga 3 #[.int .i64 ((a : Int) + 1)] := Ba.set_ 0 _
  have R1 := hr.kept hg (fun h0 ad had => by have := hA h0 ad had; simp; omega)
  have hsz := hg.size
  generalize w.setCell ⟨ga, 0, none⟩ (.int .i64 ((a : Int) + 1)) = w1 at *
  refine (TSums_ok A n c xs k i m _ (R1.ext (by (repeat (with_reducible first | exact Ext.refl _ | assumption | refine Ext.drew ?_ | refine Ext.drewN ?_ _ | refine Ext.alloc ?_ _ | refine Ext.trans ?_ (by with_reducible assumption))))) hm hk hk3 h1 hm4 hf).mono ?_
  rintro _ w2 ⟨⟨v, rfl, hv⟩, hb2⟩
  go_wp2_with fail
  go_ret2
  exact ⟨⟨_, rfl, own_lower hv (by simp; omega)⟩, gb_ext hg (by (repeat (with_reducible first | exact Ext.refl _ | assumption | refine Ext.drew ?_ | refine Ext.drewN ?_ _ | refine Ext.alloc ?_ _ | refine Ext.trans ?_ (by with_reducible assumption)))), by rw [show ((a + 1 : Nat) : Int) = (a : Int) + 1 by omega]; exact (B1.alloc _).ext hb2⟩

/-- sums of a tile may be leafs -/
theorem sumsT_ok {xs : List Int} (hv : allV xs = true) (hl : xs.length ≤ 200) (k i m : Nat) (hm : m ≤ 4) : leafsOk (sumsT xs k i m) := by
  refine ⟨by rw [sumsT_len]; omega, ?_⟩
  unfold allV sumsT
  rw [List.all_eq_true]
  intro x hx
  rw [List.mem_map] at hx
  obtain ⟨j, _, rfl⟩ := hx
  exact vld_ofL (allV_drop (allV_take hv _) _) (by rw [List.length_drop, List.length_take]; omega)

theorem make_rows : ∀ W : World, (Instr.makeSlice 58 (.int .i64 4) (.int .i64 4)).run Try.prog W = .ok (.slice (some ⟨W.heap.size, 0, none⟩) 4 4) (W.alloc (.cells #[.slice none 0 0, .slice none 0 0, .slice none 0 0, .slice none 0 0] 48)) := fun _ => by kernel_rfl
theorem rows_new (w : World) (xs : List Int) : Rows4 3 48 (w.alloc (.cells #[.slice none 0 0, .slice none 0 0, .slice none 0 0, .slice none 0 0] 48)) w.heap.size (w.heap.size + 1) (fun _ => .slice none 0 0) (fun k => accT xs k []) where
  bk := Bk.at_ _ _ _ _ rfl
  lt := by omega
  le := by simp
  own := fun k hk => own_nil _ _ _ _
  apart := fun k k' g _ _ _ h => by simp [Value.ownBlock] at h

theorem troot_zero (gs : Nat) (w : World) :
    Calls Try.prog 77 #[.slice (some ⟨gs, 0, none⟩) 4 4, .int .i64 0, .int .i64 0] w fun e w' => e = .returned (.int .i64 (sumL [])) ∧ Ext w w' := by
  go_enter Try.func77, Try.ntmps77
  go_wp2_with fail
  refine (Sum_any _ _ (by first | omega | ((try simp only [size_cat]); (try simp only [size_mk]); (try simp only [List.length_append]); (try simp only [List.length_cons]); (try simp only [List.length_nil]); (try unfold maxLen); omega))).mono ?_
  rintro e w1 ⟨rfl, hb1⟩
  go_wp2_with fail
  go_ret
  exact ⟨rfl, by (repeat (with_reducible first | exact Ext.refl _ | assumption | refine Ext.drew ?_ | refine Ext.drewN ?_ _ | refine Ext.alloc ?_ _ | refine Ext.trans ?_ (by with_reducible assumption)))⟩
set_option maxRecDepth 100000 in
set_option maxHeartbeats 4000000 in
theorem TRoot_ok (ga gl : Nat) (A : Option Addr) (n c : Nat) (xs : List Int) (w : World) (hr : Rd w 1 A n c (xs.map (Value.int .i64))) (hm : c ≤ maxLen) (hk : leafsOk xs)
    (Ba : Bk w ga 3 #[.int .i64 0]) (Bl : Bk w gl 48 #[.slice A n c]) (hne : gl ≠ ga) (hA : 0 < n → ∀ ad, A = some ad → ga ≠ ad.block) :
    Calls Try.prog 40 #[.int .i64 n, .func (.func 41) #[] #[.pointer (some ⟨ga, 0, none⟩), .pointer (some ⟨gl, 0, none⟩)]] w fun e w' => e = .returned (.tuple #[.int .i64 (ofL xs), .nilIface]) ∧ w.grownBy w' (some ga) ∧ Bk w' ga 3 #[.int .i64 ((allT n 4).length : Int)] := by
  have hx := hr.lenI
  have hn : n ≤ 200 := by have := hk.1; omega
  obtain ⟨T, hT⟩ : ∃ T, T = allT n 4 := ⟨_, rfl⟩
  have hll := allT_len n hn 4
  rw [← hT] at hll ⊢
  have HM := Lib.hid (allT_mem n 4)
  rw [← hT] at HM
  have HTT := Lib.hid hT
  clear hT
  have HX := Lib.hid hx
  have HK := Lib.hid hk
  have l1 := Ba.lt
  have l2 := Bl.lt
  have hAlt := hr.blk
  have Ba0 : Bk w ga 3 #[.int .i64 ((0 : Nat) : Int)] := Ba
  clear hx hk Ba
  obtain ⟨i0, hi0, hz0, hz1, hz2⟩ := info_parts info_int'
  have hmk := make_rows
  go_enter Try.func40, Try.ntmps40
  go_wp2_with fail
  refine (All_ok n _ (by omega) (by omega)).mono ?_
  rintro _ w1 ⟨⟨v1, rfl, hv1⟩, hb1⟩
  rw [Int.toNat_natCast, ← HTT.out] at hv1
  obtain ⟨A1, c1, rfl, hc1, R1, _⟩ := own_rd hv1
  have hA1 := own_addr hv1
  clear hv1
  go_wp2_with fail
  have HR0 := rows_new w1 xs
  have hA1' : ∀ ad, A1 = some ad → 0 < T.length → ad.block < w1.heap.size := fun ad h h0 => by
    obtain ⟨ad', e, h2, _⟩ := R1.2.2 h0
    rw [h] at e
    obtain rfl : ad = ad' := by injection e
    exact h2
  have RT := R1.ext (Ext.alloc (Ext.refl w1) (.cells #[.slice none 0 0, .slice none 0 0, .slice none 0 0, .slice none 0 0] 48))
  have E1 : Ext w (w1.alloc (.cells #[.slice none 0 0, .slice none 0 0, .slice none 0 0, .slice none 0 0] 48)) := by (repeat (with_reducible first | exact Ext.refl _ | assumption | refine Ext.drew ?_ | refine Ext.drewN ?_ _ | refine Ext.alloc ?_ _ | refine Ext.trans ?_ (by with_reducible assumption)))
  have hs1 := hb1.size
  have hsz : (w1.alloc (.cells #[.slice none 0 0, .slice none 0 0, .slice none 0 0, .slice none 0 0] 48)).heap.size = w1.heap.size + 1 := by simp
  generalize w1.heap.size = gs at *
  generalize w1.alloc (.cells #[.slice none 0 0, .slice none 0 0, .slice none 0 0, .slice none 0 0] 48) = w2 at *
  clear R1 hb1 hmk
  go_loopw [24] (fun x wr => ∃ (j : Nat) (vs : Nat → Value) (L : Nat → List Int), x = .int .i64 j ∧ j ≤ T.length ∧ w.grownBy wr (some ga) ∧ Bk wr ga 3 #[.int .i64 j] ∧ Bk wr gl 48 #[.slice A n c] ∧ Rd wr 1 A n c (xs.map (Value.int .i64)) ∧ Rd wr 3 A1 T.length c1 (T.flatMap Tl.cells) ∧ Rows4 3 48 wr gs (gs + 1) vs L ∧ Hid (∀ k, k < 4 → L k = accT xs k (T.take j))) (fun x _ => T.length - (intOf x).toNat)
  case atStart => exact ⟨0, _, _, rfl, Nat.zero_le _, E1.gb _, Ba0.ext E1, Bl.ext E1, hr.ext E1, RT, HR0, fun k _ => rfl⟩
  case round =>
    clear Ba0 Bl hr RT HR0
    obtain ⟨j, vs, L, rfl, hj, hgb, Ba, Bl, Rl, RT, HR, HL⟩ := hrel
    by_cases hc : j < T.length
    · have hgj := List.getElem?_eq_getElem (l := T) (i := j) hc
      obtain ⟨k, i, m, k1, k2, k3, k4, k5⟩ := HM.out _ (List.mem_of_getElem? hgj)
      obtain ⟨ad, rfl, hb, d0, d1, d2⟩ := RT.getT hgj
      rw [k2] at hgj d0 d1 d2
      have lga : ga < wr.heap.size := Ba.lt
      have lgs : gs < wr.heap.size := HR.bk.lt
      have EA : Ext wr (wr.alloc (.cells #[.int .i64 k, .int .i64 i, .int .i64 m] 66)) := by (repeat (with_reducible first | exact Ext.refl _ | assumption | refine Ext.drew ?_ | refine Ext.drewN ?_ _ | refine Ext.alloc ?_ _ | refine Ext.trans ?_ (by with_reducible assumption)))
      have BT : Bk (wr.alloc (.cells #[.int .i64 k, .int .i64 i, .int .i64 m] 66)) wr.heap.size 66 #[.int .i64 k, .int .i64 i, .int .i64 m] := Bk.at_ _ _ _ _ rfl
      have hbA : ad.block < gs := hA1' ad rfl (by omega)
      have hbA2 : w.heap.size ≤ ad.block := hA1 ad rfl
      have hgs0 : gs < (wr.alloc (.cells #[.int .i64 k, .int .i64 i, .int .i64 m] 66)).heap.size := EA.lt lgs
      go_wp2_with fail
      refine (Get_ok ga gl A n c xs k i m j _ (Rl.ext EA) hm HK.out (by omega) k3 k4 k5 (by omega) (Ba.ext EA) (Bl.ext EA) hne hA).mono ?_
      rintro _ w3 ⟨⟨v3, rfl, own3⟩, hg3, Ba3⟩
      have hg3r := EA.gbt hg3
      have hgb3 := gb_trans hgb hg3r
      have Bl3 := Bl.kept hg3r (by simp; omega)
      have Rl3 := Rl.kept hg3r (fun h0 ad had => by have := hA h0 ad had; simp; omega)
      have RT3 := RT.kept hg3r (fun h0 ad' had => by injection had with had; subst had; simp; omega)
      have HR3 := HR.kept hg3r (fun g hg => by injection hg with hg; omega)
      have BT3 := BT.kept hg3 (by simp; omega)
      have hsum := sumsT_ok HK.out.2 (by rw [HX.out]; omega) k i m k4
      have hsl := sumsT_len xs k i m
      have HACC : Hid (∀ k', k' < 4 → accT xs k' (T.take (j + 1)) = if k' = k then L k ++ sumsT xs k i m else L k') := fun k' hk' => by
        rw [List.take_succ_eq_append_getElem hc, k2, accT_append]
        by_cases hkk : k' = k
        · subst hkk; rw [if_pos rfl, accT_same, HL.out k' hk']
        · rw [if_neg hkk, accT_other _ _ _ hkk, List.append_nil, HL.out k' hk']
      have hLl : (L k).length ≤ 200 := by rw [HL.out k k1, HTT.out]; exact accT_bound xs n k hn j
      obtain ⟨A3, c3, rfl, hc3, R3, _⟩ := own_rd own3
      rw [hsl] at R3
      rw [hsl]
      have hsz3 := hg3.size
      have l3 : wr.heap.size < w3.heap.size := by simp at hsz3; omega
      have hob : Hid (∀ g, (vs k).ownBlock = some g → gs + 1 ≤ g ∧ g < wr.heap.size) := (HR.own k k1).lt
      clear EA BT own3 hg3 hg3r hgb Ba Bl Rl RT HR d0 d1 d2 k2 hsz3
      have HS := Lib.hid hsum
      have HSL := Lib.hid hsl
      generalize sumsT xs k i m = ys at *
      clear hsum hsl
      go_wp2_with fail
      refine (TCheck_ok A3 m c3 ys _ R3 hc3 (by omega) HS.out.2).mono ?_
      rintro _ w' ⟨rfl, rfl⟩
      have t0 := BT3.cell 0
      have t2 := BT3.cell 2
      have hadd : ∃ ad3, A3 = some ad3 ∧ ∀ j u, (ys.map (Value.int .i64))[j]? = some u → w3.cell? (ad3.add j) = some u := by
        obtain ⟨ad3, e, _, h⟩ := R3.2.2 (by omega)
        exact ⟨ad3, e, h⟩
      obtain ⟨ad3, rfl, hnews⟩ := hadd
      have HN := Lib.hid hnews
      have h1c : Hid (∀ u ∈ ys.map (Value.int .i64), u.oneCell' = true) := by
        intro u hu
        rw [List.mem_map] at hu
        obtain ⟨x, _, rfl⟩ := hu
        rfl
      clear hnews
      go_wp2_with fail
      have g0 : w3.cell? ⟨gs, k, none⟩ = some (vs k) := (HR3.bk.cell k).trans (rowsA_get vs k k1)
      have T0 : Hid (w3.cell? ⟨wr.heap.size, 0, none⟩ = some (.int .i64 k)) := t0
      have G0 := Lib.hid g0
      have kI : (k : Int) < 4 := by omega
      clear t0 t2 g0
      have hne1 : Hid (some wr.heap.size ≠ (vs k).ownBlock) := fun e => by have := hob.out _ e.symm; omega
      have hne2 : Hid ((vs k).ownBlock ≠ some gs) := fun e => by have := hob.out _ e; omega
      have t0' := T0.out
      have g0' := G0.out
      go_region_law (refine step_apps (by rfl) _ _ _ (by rfl) (gs + 1) 3 i0 _ 1 8 Try.underlying48 hi0 hz0 hz1 hz2 rfl (by omega) (vs k) _ _ (by rfl) ((HR3.ext (by (repeat (with_reducible first | exact Ext.refl _ | assumption | refine Ext.drew ?_ | refine Ext.drewN ?_ _ | refine Ext.alloc ?_ _ | refine Ext.trans ?_ (by with_reducible assumption))))).own k k1) ad3 m c3 (ys.map (Value.int .i64)) (by rfl) (by rw [List.length_map, HSL.out, Nat.mul_one]) HN.out h1c.out (by omega) (by omega) (by omega) HR3.le ?_; intro g cap w4 own4 hg4 hH4 hlt4; have TW : w4.cell? ⟨wr.heap.size, 0, none⟩ = some (.int .i64 k) := hg4.cell (a := ⟨wr.heap.size, 0, none⟩) T0.out hne1.out; have GS4 : Bk w4 gs 48 (rowsA vs) := Bk.kept (HR3.bk.drew) hg4 hne2.out; have GW : w4.cell? ⟨gs, k, none⟩ = some (vs k) := (GS4.cell k).trans (rowsA_get vs k k1); have p1 := GS4.frozen k)
      all_goals
        have own4' : w4.ownsRow (gs + 1) 3 1 (.slice (some ⟨g, 0, none⟩) (L k ++ ys).length cap) (L k ++ ys).length ((L k ++ ys).map (Value.int .i64)) := by rw [List.length_append, HSL.out, List.map_append]; exact own4
        have HR4 := Rows4.add (HR3.ext (by (repeat (with_reducible first | exact Ext.refl _ | assumption | refine Ext.drew ?_ | refine Ext.drewN ?_ _ | refine Ext.alloc ?_ _ | refine Ext.trans ?_ (by with_reducible assumption))))) k1 own4' hg4 (hH4.imp id (fun h => Nat.le_of_eq h.symm))
        rw [show (L k ++ ys).length = (L k).length + m by rw [List.length_append, HSL.out]] at HR4
        have hr4 : ∀ b, (vs k).ownBlock = some b → gs ≤ b := fun b hb' => Nat.le_of_succ_le (hob.out b hb').1
        have hz4 := GS4.lt
        have hB1 : Below gs w3 w4 := ⟨hg4.os, hg4.tape, hg4.output, hg4.size, (below_gb (N := gs) hg4 (by simp; omega) hr4).block⟩
        have hB2 : Below gs w4 (w4.setCell ⟨gs, k, none⟩ (.slice (some ⟨g, 0, none⟩) ((L k).length + m) cap)) := below_gb (gb_set w4 gs k _) (by omega) (fun b hb' => by injection hb' with hb'; omega)
        have hB := below_trans hB1 hB2
        have hgb5 := gb_below hgb3 hB hs1
        have Ba5 := Ba3.below hB (by omega)
        have Bl5 := Bl3.below hB (by omega)
        have Rl5 := Rl3.below hB (fun h0 ad' had => by have := hAlt h0 ad' had; omega)
        have RT5 := RT3.below hB (fun h0 ad' had => by injection had with had; subst had; exact hbA)
        go_wp2_with fail
        go_roundw
        case rel => exact ⟨j + 1, _, _, by go_num, by omega, hgb5, Ba5, Bl5, Rl5, RT5, HR4, fun k' hk' => by rw [HACC.out k' hk']; unfold upd; rfl⟩
        case measure => simp [intOf]; omega
    · obtain rfl : j = T.length := by omega
      have HF := Lib.hid fun (k : Nat) (hk : k < 4) => (by rw [HL.out k hk, List.take_length, HTT.out, accT_all, if_pos hk] : L k = rowT xs (n / 4 ^ k) k)
      have HRA : RowsAt wr gs n xs := ⟨HR.bk.lt, fun k hk => by
        have h := HR.own k hk
        rw [HF.out k hk, rowT_len] at h
        obtain ⟨A', c', e, h1, h2, _⟩ := own_rd h
        exact ⟨A', c', by rw [HR.bk.cell k, rowsA_get vs k hk, e], h1, h2⟩⟩
      by_cases h0 : n = 0
      · have hxs : xs = [] := List.eq_nil_of_length_eq_zero (by rw [HX.out]; exact h0)
        have HO : Hid (sumL [] = ofL xs) := by show _ = _; rw [hxs, ofL_nil]
        subst h0
        clear hxs
        go_wp2_with fail
        refine (troot_zero _ _).mono ?_
        rintro _ w5 ⟨rfl, hb5⟩
        rw [HO.out]
        go_wp2_with fail
        go_ret2
        exact ⟨rfl, gb_ext hgb hb5, Ba.ext hb5⟩
      · have HO : Hid (ofL (seg xs 0 n) = ofL xs) := by show _ = _; rw [← HX.out, seg_all]
        have HT := Lib.hid fun (W : World) (h : RowsAt W gs n xs) => troot_any gs n xs hn HX.out HK.out.2 n 0 n W (Nat.le_refl _) (by omega) (by omega) h
        go_wp2_with fail
        refine (HT.out _ HRA).mono ?_
        rintro _ w5 ⟨rfl, hb5⟩
        rw [HO.out]
        go_wp2_with fail
        go_ret2
        exact ⟨rfl, gb_ext hgb hb5, Ba.ext hb5⟩
end Go.Proofs.Ytcpnhmjibihpkaa
