import Derived.Test.YtcpnhmjibihpkaaCheckB
namespace Go.Proofs.Ytcpnhmjibihpkaa.batchProves
open Go.RowKit Go.WideShapes
set_option linter.unusedVariables false
attribute [local go_sem ↓] Go.wp_at_zero Go.wp_at_succ

theorem half3 : half 3 = 2 := by decide
theorem half2 : half 2 = 1 := by decide
theorem fact_prov : provL [5, 6, 7] 0 3 [0, 2] = [6] := by
  rw [provL_two _ (by decide) (by decide) (by decide), half3]
  show provL [5, 6, 7] 0 2 [0] ++ provL [5, 6, 7] 2 1 [2] = [6]
  rw [provL_leaf _ _ (l := [2]) (by decide), provL_two _ (by decide) (by decide) (by decide), half2]
  show provL [5, 6, 7] 0 1 [0] ++ provL [5, 6, 7] 1 1 [] ++ [] = [6]
  rw [provL_none, provL_leaf _ _ (by decide)]
  show [] ++ [ofL [6]] ++ [] = [6]
  rw [ofL_one]
  rfl
theorem fact_ok : leafsOk [5, 6, 7] := ⟨by decide, by decide⟩
theorem fact_pl : placesK ((3 : Nat) : Int) [0, 2] = 0 := by decide
theorem lists_rd (w : World) : Rd ((w.alloc (.cells #[.int .i64 5, .int .i64 6, .int .i64 7] 3)).alloc (.cells #[.int .i64 0, .int .i64 2] 3)) 1 (some ⟨w.heap.size, 0, none⟩) 3 3 (([5, 6, 7] : List Int).map (Value.int .i64)) ∧ Rd ((w.alloc (.cells #[.int .i64 5, .int .i64 6, .int .i64 7] 3)).alloc (.cells #[.int .i64 0, .int .i64 2] 3)) 1 (some ⟨w.heap.size + 1, 0, none⟩) 2 2 (([0, 2] : List Int).map (Value.int .i64)) :=
  ⟨Rd.ext ⟨rfl, Nat.le_refl _, fun _ => ⟨_, rfl, by simp, news_new w 3 _ _ rfl⟩⟩ (Ext.alloc (Ext.refl _) _), ⟨rfl, Nat.le_refl _, fun _ => ⟨_, rfl, by simp, news_new (w.alloc _) 3 _ _ (by simp)⟩⟩⟩

/-- the steps of some proofs -/
def stepsS (n : Nat) (l : List Int) : Nat := (l.map fun i => stepsN (i.toNat - 0) n).sum
theorem stepsS_snoc (n : Nat) (l : List Int) (z : Nat) : stepsS n (l ++ [(z : Int)]) = stepsS n l + stepsN z n := by
  simp [stepsS]
theorem stepsS_le {n : Nat} (hn : n ≤ 200) (h1 : 1 ≤ n) : ∀ l : List Int, stepsS n l ≤ 200 * l.length
  | [] => by simp [stepsS]
  | x :: l => by
    have := stepsS_le hn h1 l
    have h2 := stepsN_lt n (x.toNat - 0) n (Nat.le_refl _) (by omega) h1
    unfold stepsS at *
    rw [List.map_cons, List.sum_cons, List.length_cons]
    omega
theorem sumsAt_snoc (xs l : List Int) (z : Nat) {u : Int} (h : xs[z]? = some u) : sumsAt xs (l ++ [(z : Int)]) = sumsAt xs l ++ [u] := by
  simp [sumsAt, List.getD_eq_getElem?_getD, h]

set_option maxRecDepth 100000 in
set_option maxHeartbeats 4000000 in
theorem walk_yes (A A' : Option Addr) (n c m c' : Nat) (xs l : List Int) (w : World) (hm : c ≤ maxLen) (hr : Rd w 1 A n c (xs.map (Value.int .i64))) (hm' : c' ≤ maxLen) (hr' : Rd w 1 A' m c' (l.map (Value.int .i64))) (hK : makeK xs l = 0) :
    Calls Try.prog 15 #[.slice A n c, .slice A' m c'] w fun e w' => e = .returned (.bool true) ∧ Ext w w' := by
  have hl := hr.lenI
  have hl' := hr'.lenI
  have hlc := hr.2.1
  have hlc' := hr'.2.1
  obtain ⟨hk, hpl, h1⟩ := makeK_zero hK
  rw [hl] at hpl h1
  have hn : n ≤ 200 := by have := hk.1; rw [hl] at this; exact this
  have hm4 : m ≤ 400 := by have := (placesK_zero hpl).1; omega
  have hpt := placesK_part hpl
  have hwk := check_walk xs hk.2 n 0 n l [] [] (Nat.le_refl _) h1 (by omega) (by omega) hpt
  have hsg := seg_all xs
  rw [hl] at hsg
  rw [hsg, List.append_nil, List.append_nil] at hwk
  have hshort := prov_short xs n 0 n l (Nat.le_refl _) h1 (by omega) hpt
  have hall := prov_all xs n 0 n l (Nat.le_refl _) h1 (by omega) hpt
  have hnone := provL_none xs 0 n
  rw [hsg] at hnone
  have hplen := prov_len xs n 0 n l (Nat.le_refl _) h1 (by omega)
  have HX := Lib.hid hl
  have HX' := Lib.hid hl'
  have HK := Lib.hid hk
  have HPL := Lib.hid hpl
  have HPT := Lib.hid hpt
  have HWK := Lib.hid hwk
  have HF : Hid (provL [5, 6, 7] 0 3 [0, 2] = [6]) := fact_prov
  have HALL := Lib.hid hall
  have HSH := Lib.hid hshort
  have HNO := Lib.hid hnone
  have HLONG := Lib.hid fun (W : World) (e : Ext w W) => Long_ok xs n A' m c' l W (hr'.ext e) hm' h1 hn hpl
  have HMAKE := Lib.hid fun (W : World) (e : Ext w W) => BMake_ok A A' n c m c' xs l W (hr.ext e) hm (hr'.ext e) hm' hk hpl h1
  have hps : Hid (allV (provL xs 0 n l) = true) := by
    show _ = _
    exact prov_valid xs hk.2 n 0 n l (Nat.le_refl _) h1 (by omega) (by omega)
  obtain ⟨r1, r2⟩ := lists_rd w
  obtain ⟨i0, hi0, hz0, hz1, hz2⟩ := info_parts info_intB
  have e1n : (1 : Int) ≤ (n : Int) := by omega
  clear hl hl' hk hpl hpt hwk hsg hall hshort hnone hK
  obtain ⟨ps, hpsd⟩ : ∃ ps, provL xs 0 n l = ps := ⟨_, rfl⟩
  have HPS := Lib.hid hpsd
  simp only [hpsd] at hplen HWK HALL HSH hps HLONG HMAKE
  clear hpsd
  go_enter Try.func15, Try.ntmps15
  go_wp2_with fail
  refine (BMake_ok _ _ 3 3 2 2 [5, 6, 7] [0, 2] _ r1 (by simp [maxLen]) r2 (by simp [maxLen]) fact_ok fact_pl (by omega)).mono ?_
  rintro _ w1 ⟨⟨v, rfl, hv⟩, hb1⟩
  rw [HF.out] at hv
  obtain ⟨A1, c1, rfl, hc1, R1, _⟩ := own_rd hv
  obtain ⟨ad1, rfl, _, d0⟩ := R1.getI (j := 0) (z := 6) rfl
  rw [add_zero'] at d0
  rw [show ([6] : List Int).length = 1 from rfl]
  have E1 : Ext w w1 := by (repeat (with_reducible first | exact Ext.refl _ | assumption | refine Ext.drew ?_ | refine Ext.drewN ?_ _ | refine Ext.alloc ?_ _ | refine Ext.trans ?_ (by with_reducible assumption)))
  clear hv R1 hb1 r1 r2
  go_wp2_with fail
  refine (HMAKE.out _ E1).mono ?_
  rintro _ w2 ⟨⟨v2, rfl, hv2⟩, hb2⟩
  obtain ⟨A2, c2, rfl, hc2, R2, _⟩ := own_rd hv2
  have E2 := E1.trans hb2
  clear d0 hv2 hb2 E1
  go_wp2_with fail
  refine (Root_ok A n c xs _ (hr.ext E2) hm HK.out).mono ?_
  rintro _ w3 ⟨rfl, hb3⟩
  have E3 := E2.trans hb3
  have R3 := R2.ext hb3
  clear R2 E2 hb3
  go_wp2_with fail
  refine (HLONG.out _ E3).mono ?_
  rintro _ w4 ⟨rfl, hb4⟩
  have E4 := E3.trans hb4
  have R4 := R3.ext hb4
  have hpc := R4.2.1
  clear R3 E3 hb4 HLONG HMAKE
  go_wp2_with fail
  go_loopw [13, 14, 15] (fun v q x wr => ∃ j : Nat, x = .int .i64 j ∧ j ≤ m ∧ q = .int .i64 (stepsS n (l.take j) : Nat) ∧ Ext w4 wr ∧ Hid (wr.ownsRow w4.heap.size 3 1 v j ((sumsAt xs (l.take j)).map (Value.int .i64)))) (fun _ _ x _ => m - (intOf x).toNat)
  case atStart => exact ⟨0, rfl, Nat.zero_le _, rfl, Ext.refl _, own_nil _ _ _ _⟩
  case round =>
    obtain ⟨j, rfl, hj, rfl, hbw, hown⟩ := hrel
    by_cases hc : j < m
    · have hgj := List.getElem?_eq_getElem (l := l) (i := j) (by rw [HX'.out]; exact hc)
      have hin := HPT.out.2 _ (List.mem_of_getElem? hgj)
      have HTK : Hid (l.take (j + 1) = l.take j ++ [l[j]'(by rw [HX'.out]; exact hc)]) := by show _ = _; rw [List.take_succ_eq_append_getElem (by rw [HX'.out]; exact hc)]
      generalize l[j]'(by rw [HX'.out]; exact hc) = z0 at *
      obtain ⟨z, rfl⟩ : ∃ z : Nat, z0 = (z : Int) := ⟨z0.toNat, by omega⟩
      have hzn : z < n := by omega
      have hxz := List.getElem?_eq_getElem (l := xs) (i := z) (by rw [HX.out]; exact hzn)
      have HU := Lib.hid (sumsAt_snoc xs (l.take j) z hxz)
      have HSS := Lib.hid (stepsS_snoc n (l.take j) z)
      have hsb := stepsS_le hn h1 (l.take j)
      have hsl : (l.take j).length ≤ j := List.length_take_le _ _
      have hst := stepsN_lt n z n (Nat.le_refl _) (by omega) h1
      have hzt : (xs.take n)[z]? = some (xs[z]'(by rw [HX.out]; exact hzn)) := by rw [List.getElem?_take, if_pos hzn]; exact hxz
      have hlt : (xs.take n).length = n := by rw [List.length_take, HX.out]; omega
      have hway := wayL_len n (xs.take n) z (by omega) (by omega)
      have hup := up_way n (xs.take n) z _ (by omega) (by omega) hzt
      rw [hlt] at hway hup
      have htn : xs.take n = xs := List.take_of_length_le (by rw [HX.out]; exact Nat.le_refl _)
      rw [htn] at hway hup
      have vps := allV_way n xs z (by rw [HX.out]; exact Nat.le_refl _) (by rw [HX.out]; omega) HK.out.2
      have vz := allV_get HK.out.2 hxz
      have vro := vld_ofL HK.out.2 (by rw [HX.out]; omega)
      have HC0 : Hid (errR (pcheck (ofL xs) (n : Int) (z : Int) (xs[z]'(by rw [HX.out]; exact hzn)) (wayL xs z)) = .nilIface) := by
        show _ = _
        rw [pcheck_ok ⟨by omega, by omega, by omega⟩ ⟨vro, vz, vps⟩ (by rw [Int.toNat_natCast, Int.toNat_natCast]; exact hway) (by rw [Int.toNat_natCast, Int.toNat_natCast]; exact hup)]
        rfl
      have HWAY := Lib.hid hway
      have HTN := Lib.hid htn
      have Er := E4.trans hbw
      obtain ⟨ad', rfl, hb', d04⟩ := (hr'.ext E4).getI hgj
      obtain ⟨ad, rfl, hb, d14⟩ := (hr.ext E4).getI hxz
      have d0 := (Ext.cell (p := ad'.add j) hbw (by rw [blk_add]; exact hb')).trans d04
      have d1 := (Ext.cell (p := ad.add z) hbw (by rw [blk_add]; exact hb)).trans d14
      generalize xs[z]'(by rw [HX.out]; exact hzn) = u at *
      generalize stepsS n (l.take j) = S at *
      have D0 := Lib.hid d04
      have D1 := Lib.hid d14
      have hbs := hbw.size
      have z1 : (z : Int) < (n : Int) := by omega
      clear hway hup hzt hlt htn hgj hxz hin d04 d14
      go_wp2_with (at_builtin; refine wpl_app (by rfl) _ _ _ (by rfl) w4.heap.size 3 i0 _ 1 8 Try.underlying48 hi0 hz0 hz1 hz2 rfl (by omega) u13 _ _ (by rfl) ((hown.out).alloc _) wr.heap.size 1 [.int .i64 u] rfl (by rfl) (news_new wr _ _ _ rfl) (oneI _) (by omega) (by omega) (by simp; omega) ?_; intro g cap w5 own5 hext5; have E5 := hext5 w4 (Nat.le_refl _) (by (repeat (with_reducible first | exact Ext.refl _ | assumption | refine Ext.drew ?_ | refine Ext.drewN ?_ _ | refine Ext.alloc ?_ _ | refine Ext.trans ?_ (by with_reducible assumption)))); have d05 := (Ext.cell (p := ad'.add j) E5 (by rw [blk_add]; exact hb')).trans D0.out; have d15 := (Ext.cell (p := ad.add z) E5 (by rw [blk_add]; exact hb)).trans D1.out)
      have E5w := E4.trans E5
      clear d0 d1
      refine (PMake_ok (some ad) n c xs z n _ (hr.ext E5w) hm HK.out (by omega) (by omega) (by omega)).mono ?_
      rintro _ w6 ⟨⟨v6, rfl, hv6⟩, hb6⟩
      rw [Int.toNat_natCast, Int.toNat_natCast, HTN.out] at hv6
      obtain ⟨A6, c6, rfl, hc6, R6⟩ := hv6.rd
      rw [HWAY.out] at R6
      rw [HWAY.out]
      have E6 := E5.trans hb6
      have own6 := own_ext own5 hb6
      have d06 := (Ext.cell (p := ad'.add j) E6 (by rw [blk_add]; exact hb')).trans D0.out
      have d16 := (Ext.cell (p := ad.add z) E6 (by rw [blk_add]; exact hb)).trans D1.out
      have D06 := Lib.hid d06
      have D16 := Lib.hid d16
      have l6a := E6.lt hb'
      have l6b := E6.lt hb
      clear hv6 own5 d05 d15 hb6 E5
      go_wp2_with fail
      clear d06 d16
      have hS : S ≤ 80000 := by omega
      have hz200 : stepsN z n ≤ 200 := by omega
      go_region_held3 (fun W => W.cell? (ad'.add j) = some (.int .i64 z) ∧ W.cell? (ad.add z) = some (.int .i64 u)) (first | exact ⟨D06.out, D16.out⟩ | exact ⟨(Ext.cell (p := ad'.add j) (by (repeat (with_reducible first | exact Ext.refl _ | assumption | refine Ext.drew ?_ | refine Ext.drewN ?_ _ | refine Ext.alloc ?_ _ | refine Ext.trans ?_ (by with_reducible assumption)))) (by rw [blk_add]; exact l6a)).trans D06.out, (Ext.cell (p := ad.add z) (by (repeat (with_reducible first | exact Ext.refl _ | assumption | refine Ext.drew ?_ | refine Ext.drewN ?_ _ | refine Ext.alloc ?_ _ | refine Ext.trans ?_ (by with_reducible assumption)))) (by rw [blk_add]; exact l6b)).trans D16.out⟩) (first
        | (go_at_call 35; (with_reducible refine (PCheck_any _ _ _ _ (some _) _ c6 (wayL xs z) _ (by exact R6.ext (by (repeat (with_reducible first | exact Ext.refl _ | assumption | refine Ext.drew ?_ | refine Ext.drewN ?_ _ | refine Ext.alloc ?_ _ | refine Ext.trans ?_ (by with_reducible assumption))))) hc6).mono ?_); rw [HC0.out]; rintro _ w7 ⟨rfl, hb7⟩)
        | (go_at_call 35; (with_reducible refine (PCheck_any _ _ _ _ A6 _ c6 (wayL xs z) _ (by exact R6.ext (by (repeat (with_reducible first | exact Ext.refl _ | assumption | refine Ext.drew ?_ | refine Ext.drewN ?_ _ | refine Ext.alloc ?_ _ | refine Ext.trans ?_ (by with_reducible assumption))))) hc6).mono ?_); rw [HC0.out]; rintro _ w7 ⟨rfl, hb7⟩)
        | fail)
      all_goals
        have E7 : Ext w6 w7 := by (repeat (with_reducible first | exact Ext.refl _ | assumption | refine Ext.drew ?_ | refine Ext.drewN ?_ _ | refine Ext.alloc ?_ _ | refine Ext.trans ?_ (by with_reducible assumption)))
        go_wp2_with fail
        go_roundw
        case rel => exact ⟨j + 1, by go_num, by omega, by rw [HTK.out, HSS.out]; go_num, E6.trans E7, by rw [HTK.out, HU.out, List.map_append]; exact own_ext own6 E7⟩
        case measure => simp [intOf]; omega
    · obtain rfl : j = m := by omega
      have hta : l.take j = l := List.take_of_length_le (by rw [HX'.out]; exact Nat.le_refl _)
      rw [hta] at hown ⊢
      have E5 := E4.trans hbw
      have R5 := R4.ext hbw
      have hsb := stepsS_le hn h1 l
      rw [HX'.out] at hsb
      obtain ⟨A5, c5, rfl, hc5, R6, _⟩ := own_rd hown.out
      have vro := vld_ofL HK.out.2 (by rw [HX.out]; omega)
      have vsum : Hid (allV (sumsAt xs l) = true) := by
        show _ = _
        unfold allV sumsAt
        rw [List.all_eq_true]
        intro x hx
        rw [List.mem_map] at hx
        obtain ⟨y, hy, rfl⟩ := hx
        have hy2 := HPT.out.2 y hy
        have hyl : y.toNat < xs.length := by rw [HX.out]; omega
        rw [List.getD_eq_getElem?_getD, List.getElem?_eq_getElem hyl]
        exact allV_get HK.out.2 (List.getElem?_eq_getElem hyl)
      have HRK : Hid (errR (rootK (ofL xs) (ofL xs)) = .nilIface) := by show _ = _; unfold rootK; rw [if_pos rfl]; rfl
      have HSHORT : Hid (0 < j → ps.length ≤ stepsS n l) := fun h0 => HSH.out (fun e => by have := HX'.out; rw [e] at this; simp at this; omega)
      have HEMPTY : Hid (j = 0 → ps = [ofL xs]) := fun h0 => by
        have hl0 : l = [] := List.eq_nil_of_length_eq_zero (by rw [HX'.out]; exact h0)
        have := HPS.out
        rw [hl0] at this
        rw [← this]; exact HNO.out
      have HFULL : Hid (n ≤ j → ps.length = 0) := fun h => by rw [HALL.out (by rw [HX'.out]; exact h)]; rfl
      clear hta hown R4
      go_wp2_with fail
      refine (BCheck_walk (ofL xs) n A' A5 A2 j c' j c5 ps.length c2 l (sumsAt xs l) ps (ofL xs) ([], []) xs _ (hr'.ext E5) hm' R6 hc5 R5 hc2 h1 hn HPL.out vro vsum.out hps.out rfl (by rw [HPS.out]) HWK.out).mono ?_
      rw [HRK.out]
      rintro _ w6 ⟨rfl, hb6⟩
      have E6 := E5.trans hb6
      by_cases h0 : j = 0
      · have hps1 := HEMPTY.out h0
        subst hps1
        obtain ⟨ad2, rfl, hb2, d2⟩ := (R5.ext hb6).getI (j := 0) (z := ofL xs) rfl
        rw [add_zero'] at d2
        rw [show ([ofL xs] : List Int).length = 1 from rfl] at *
        subst h0
        have n0 : (0 : Int) < (n : Int) := by omega
        go_wp2_with fail
        go_ret
        exact ⟨rfl, E6⟩
      · have hs1 := HSHORT.out (by omega)
        have hj0 : 0 < j := by omega
        have hj1 : (0 : Int) < (j : Int) := by omega
        have hj2 : ((j : Int) == 0) = false := by simp; omega
        have hs2 : ((ps.length : Nat) : Int) ≤ ((stepsS n l : Nat) : Int) := by omega
        by_cases hjn : j < n
        · have hj3 : (j : Int) < (n : Int) := by omega
          generalize stepsS n l = S at *
          clear h0
          go_wp2_with fail
          go_ret
          exact ⟨rfl, E6⟩
        · have hp0 := HFULL.out (by omega)
          have hj3 : (n : Int) ≤ (j : Int) := by omega
          have HP0 : Hid (ps = []) := List.eq_nil_of_length_eq_zero hp0
          generalize stepsS n l = S at *
          clear h0 hp0
          rw [HP0.out] at hs2 ⊢
          rw [show (([] : List Int).length) = 0 from rfl] at hs2 ⊢
          go_wp2_with fail
          go_ret
          exact ⟨rfl, E6⟩

set_option maxRecDepth 100000 in
set_option maxHeartbeats 1000000 in
theorem walk (A : Option Addr) (n c : Nat) (xs : List Int) (A' : Option Addr) (m c' : Nat) (l : List Int) (w : World) (hl : xs.length = n) (hm : c ≤ maxLen) (hr : Rd w 1 A n c (xs.map (Value.int .i64))) (hg : ∀ y ∈ xs, igood y) (hl' : l.length = m) (hm' : c' ≤ maxLen) (hr' : Rd w 1 A' m c' (l.map (Value.int .i64))) (hg' : ∀ y ∈ l, igood y) :
    Calls Try.prog 15 #[.slice A n c, .slice A' m c'] w fun e w' => e = .returned (.bool true) ∧ Ext w w' := by
  by_cases hK : makeK xs l = 0
  · exact walk_yes A A' n c m c' xs l w hm hr hm' hr' hK
  · have HF : Hid (provL [5, 6, 7] 0 3 [0, 2] = [6]) := fact_prov
    obtain ⟨r1, r2⟩ := lists_rd w
    clear hg hg' hl hl'
    go_enter Try.func15, Try.ntmps15
    go_wp2_with fail
    refine (BMake_ok _ _ 3 3 2 2 [5, 6, 7] [0, 2] _ r1 (by simp [maxLen]) r2 (by simp [maxLen]) fact_ok fact_pl (by omega)).mono ?_
    rintro _ w1 ⟨⟨v, rfl, hv⟩, hb1⟩
    rw [HF.out] at hv
    obtain ⟨A1, c1, rfl, hc1, R1, _⟩ := own_rd hv
    obtain ⟨ad1, rfl, _, d0⟩ := R1.getI (j := 0) (z := 6) rfl
    rw [add_zero'] at d0
    rw [show ([6] : List Int).length = 1 from rfl]
    have E1 : Ext w w1 := by (repeat (with_reducible first | exact Ext.refl _ | assumption | refine Ext.drew ?_ | refine Ext.drewN ?_ _ | refine Ext.alloc ?_ _ | refine Ext.trans ?_ (by with_reducible assumption)))
    clear hv R1 hb1 r1 r2
    go_wp2_with fail
    refine (BMake_bad A A' n c m c' xs l _ (hr.ext E1) hm (hr'.ext E1) hm' hK).mono ?_
    rintro _ w2 ⟨rfl, hb2⟩
    simp only [errV]
    go_wp2_with fail
    go_ret
    exact ⟨rfl, E1.trans hb2⟩
end Go.Proofs.Ytcpnhmjibihpkaa.batchProves
