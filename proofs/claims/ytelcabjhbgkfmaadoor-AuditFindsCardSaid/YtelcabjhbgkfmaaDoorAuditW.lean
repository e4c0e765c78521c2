/- audit.Bad, audit.Whole. -/
import Derived.Test.YtelcabjhbgkfmaaDoorAuditB
import Derived.Test.YtelcabjhbgkfmaaDoorFindF
namespace Go.Proofs.YtelcabjhbgkfmaaDoor
open Go.RowKit Go.WideShapes
set_option linter.unusedVariables false
attribute [local go_sem ↓] Go.wp_at_zero Go.wp_at_succ

set_option maxRecDepth 100000 in
set_option maxHeartbeats 2000000 in
theorem ABad_any (A : Option Addr) (n c : Nat) (es : List Ent) (A' : Option Addr) (m c' : Nat) (vs : List Value) (ys : List (List Int)) (w : World) (hr : Rd w 2 A n c (es.flatMap Ent.cells)) (hm : c ≤ maxLen)
    (hr' : Rd w 1 A' m c' vs) (hm' : c' ≤ maxLen) (hl' : LLd w vs ys) :
    Calls Tryd.prog 29 #[.slice A n c, .slice A' m c'] w fun e w' => (∃ v, e = .returned (.tuple #[v, errR (badK es m)]) ∧ OwnT w w' v (badV es ys)) ∧ Ext w w' := by
  obtain ⟨hE, hN, hG0⟩ := errR_rules
  have hvl : vs.length = m := by have := hr'.1; omega
  have hyl : ys.length = m := hl'.1.symm.trans hvl
  have hx := hr.lenE
  have hmc := hr'.2.1
  have hms : c' ≤ 9223372036854775807 := by unfold maxLen at hm'; omega
  have HB1 : Hid (entsErr es ≠ 0 → badK es m = entsErr es ∧ badV es ys = []) := Lib.hid fun h => by
    have h1 : badK es m = entsErr es := by unfold badK; rw [if_pos h]
    refine ⟨h1, ?_⟩
    unfold badV; rw [hyl, h1, if_neg h]
  have HB2 : Hid (entsErr es = 0 → m ≠ (tilesT es).length → badK es m = 3 ∧ badV es ys = []) := Lib.hid fun h h2 => by
    have h1 : badK es m = 3 := by unfold badK; rw [if_neg (not_not_intro h), if_pos h2]
    refine ⟨h1, ?_⟩
    unfold badV; rw [hyl, h1, if_neg (by decide)]
  have HB3 : Hid (entsErr es = 0 → m = (tilesT es).length → badK es m = 0 ∧ badV es ys = badJ (tilesT es) ys (tilesV es) m) := Lib.hid fun h h2 => by
    have h1 : badK es m = 0 := by unfold badK; rw [if_neg (not_not_intro h), if_neg (not_not_intro h2)]
    refine ⟨h1, ?_⟩
    unfold badV; rw [hyl, h1, if_pos rfl, ← h2]
  have HT : Hid (entsErr es = 0 → tilesT es = allT n 4 ∧ n ≤ 200) := Lib.hid fun h => by
    refine ⟨by unfold tilesT; rw [if_pos h, hx], ?_⟩
    rw [← hx]
    unfold entsErr at h
    split at h
    · cases h
    · omega
  have HA := Lib.hid (ATiles_any A n c es w hr hm)
  have htl := tilesT_len es
  have HVL := Lib.hid (tilesV_len es)
  obtain ⟨ek, hek⟩ : ∃ v, entsErr es = v := ⟨_, rfl⟩
  obtain ⟨bk, hbk⟩ : ∃ v, badK es m = v := ⟨_, rfl⟩
  obtain ⟨bv, hbv⟩ : ∃ v, badV es ys = v := ⟨_, rfl⟩
  obtain ⟨T, hT⟩ : ∃ v, tilesT es = v := ⟨_, rfl⟩
  obtain ⟨rs, hrs⟩ : ∃ v, tilesV es = v := ⟨_, rfl⟩
  rw [hek] at HB1 HB2 HB3 HT HA
  rw [hbk, hbv] at HB1 HB2 HB3
  rw [hT] at HB2 HB3 HT htl HVL
  rw [hrs] at HB3 HA HVL
  rw [hbk, hbv]
  have HL := Lib.hid hl'
  have HR' := Lib.hid hr'
  have HYL := Lib.hid hyl
  clear hek hbk hbv hT hrs hl' hr' hvl hyl hx hr
  obtain ⟨i0, hi0, hz0, hz1, hz2⟩ := info_parts info_tile
  go_enter Tryd.func29, Tryd.ntmps29
  go_wp2_with fail
  refine HA.out.mono ?_
  rintro _ w1 ⟨⟨v1, rfl, own1⟩, hb1⟩
  obtain ⟨A1, c1, rs', rfl, hc1, R1, L1⟩ := own1.rd
  rw [HVL.out] at R1
  rw [HVL.out]
  have hT1 := R1.2.1
  have hc1s : c1 ≤ 9223372036854775807 := by unfold maxLen at hc1; omega
  by_cases h0 : ek = 0
  case neg =>
    obtain ⟨rfl, rfl⟩ := HB1.out h0
    have hok := isOk_no h0
    clear HB1 HB2 HB3 h0
    go_wp2_with fail
    go_ret2
    exact ⟨⟨_, rfl, own_nil _ _ _ _⟩, hb1⟩
  subst h0
  rw [errR_0]
  obtain ⟨hTn, hn⟩ := HT.out rfl
  have HTN := Lib.hid hTn
  clear hTn HB1 HT
  by_cases h1 : m = T.length
  case neg =>
    obtain ⟨rfl, rfl⟩ := HB2.out rfl h1
    have e1 : ((m : Int) != (T.length : Int)) = true := by simp; omega
    clear HB2 HB3 h1
    go_wp2_with fail
    go_ret2
    exact ⟨⟨_, rfl, own_nil _ _ _ _⟩, hb1⟩
  obtain ⟨rfl, hbv⟩ := HB3.out rfl h1
  have HBV := Lib.hid hbv
  have HM := Lib.hid h1
  have HAO := Lib.hid fun W => AllOf_any n W hn
  rw [← HTN.out] at HAO
  rw [← h1] at R1 ⊢
  have hm204 : m ≤ 204 := by omega
  clear HB2 HB3 h1 hbv htl own1
  have HR1 := Lib.hid R1
  have HL1 := Lib.hid L1
  clear R1 L1
  go_wp2_with fail
  refine (HAO.out _).mono ?_
  rintro _ w2 ⟨⟨v2, rfl, own2⟩, hb2⟩
  obtain ⟨A2, c2, rfl, hc2, R2, _⟩ := own_rd own2
  rw [← HM.out] at R2 ⊢
  have hT2 := R2.2.1
  have hc2s : c2 ≤ 9223372036854775807 := by unfold maxLen at hc2; omega
  have E2 : Ext w w2 := hb1.trans hb2
  have hE2 := E2.size
  have HR2 := Lib.hid R2
  clear own2 R2
  go_wp2_with fail
  go_loopw [8, 29] (fun v x wr => ∃ j : Nat, x = .int .i64 j ∧ j ≤ m ∧ Ext w2 wr ∧ Hid (OwnT w2 wr v (badJ T ys rs j))) (fun _ x _ => m - (intOf x).toNat)
  case atStart => exact ⟨0, rfl, Nat.zero_le _, Ext.refl _, own_nil _ _ _ _⟩
  case round =>
    obtain ⟨j, rfl, hj, hbw, hown⟩ := hrel
    by_cases hc : j < m
    · have hgt := List.getElem?_eq_getElem (l := T) (i := j) (by rw [← HM.out]; exact hc)
      have hgy := List.getElem?_eq_getElem (l := ys) (i := j) (by rw [HYL.out]; exact hc)
      have hgr := List.getElem?_eq_getElem (l := rs) (i := j) (by rw [HVL.out, ← HM.out]; exact hc)
      generalize T[j]'(by rw [← HM.out]; exact hc) = t at *
      generalize ys[j]'(by rw [HYL.out]; exact hc) = y at *
      generalize rs[j]'(by rw [HVL.out, ← HM.out]; exact hc) = r at *
      obtain ⟨Ay, cy, gy, hcy, Ry⟩ := HL.out.2 j y hgy
      obtain ⟨Ar, cr, gr, hcr, Rr⟩ := HL1.out.2 j r hgr
      have e1r : Ext w1 wr := hb2.trans hbw
      have e0r : Ext w wr := E2.trans hbw
      obtain ⟨ad, rfl, hb, d0, d1, d2⟩ := (HR2.out.ext hbw).getT hgt
      obtain ⟨ady, rfl, hby, cy0⟩ := (HR'.out.ext e0r).at_ gy
      obtain ⟨adr, rfl, hbr, cr0⟩ := (HR1.out.ext e1r).at_ gr
      have HJ1 : Hid (y = r → badJ T ys rs (j + 1) = badJ T ys rs j) := Lib.hid fun e => by
        rw [badJ, if_pos (by rw [hgy, hgr, e])]
      have HJ2 : Hid (y ≠ r → badJ T ys rs (j + 1) = badJ T ys rs j ++ [t]) := Lib.hid fun e => by
        rw [badJ, if_neg (by rw [hgy, hgr]; intro h; injection h with h; exact e h), hgt]; rfl
      have HEQ := Lib.hid fun W (e : Ext wr W) => IEq_any Ay Ar y.length r.length cy cr y r W (Ry.ext (e0r.trans e)) (Rr.ext (e1r.trans e)) hcy hcr
      have hbl := badJ_len T ys rs j
      obtain ⟨qb, hqb⟩ : ∃ b, eqL y r = b := ⟨_, rfl⟩
      have HQB := Lib.hid hqb
      rw [hqb] at HEQ
      clear hgt hgy hgr gy gr Ry Rr hqb
      obtain ⟨t0, t1, t2⟩ := t
      simp only at d0 d1 d2
      generalize badJ T ys rs j = L at *
      have hbk : ad.block < wr.heap.size := hb
      have B3 := Bk.at_ wr 62 #[.int .i64 t0, .int .i64 t1, .int .i64 t2] wr.heap.size rfl
      have e3 : Ext wr (wr.alloc (.cells #[.int .i64 t0, .int .i64 t1, .int .i64 t2] 62)) := (Ext.refl _).alloc _
      have hby' : (ady.add j).block < wr.heap.size := by rw [blk_add]; exact hby
      have hbr' : (adr.add j).block < wr.heap.size := by rw [blk_add]; exact hbr
      have HE3 := Lib.hid e3
      go_upto_region 10 with (fail)
      generalize wr.alloc (.cells #[.int .i64 t0, .int .i64 t1, .int .i64 t2] 62) = W3 at *
      have fy := WE.row ((HE3.out.cell hby').trans cy0) (HE3.out.lt hby')
      have fr := WE.row ((HE3.out.cell hbr').trans cr0) (HE3.out.lt hbr')
      have hjm : (j : Int) < (m : Int) := by omega
      clear d0 d1 d2 cy0 cr0 e3
      (refine wp_region_ext (w0 := W3) (by kernel_rfl) (by kernel_rfl) (by (repeat (with_reducible first | exact Ext.refl _ | assumption | refine Ext.drew ?_ | refine Ext.drewN ?_ _ | refine Ext.alloc ?_ _ | refine Ext.trans ?_ (by with_reducible assumption)))) ?_; (repeat (go_big_quiet_step ((go_at_call 63; exact quietE (HEQ.out _ (HE3.out.trans (WE.h _))))))); refine wpQuiet_nil ?_)
      intro w4 hb4
      clear fy fr
      have e4 : Ext w2 w4 := (hbw.trans HE3.out).trans hb4
      have B4 := B3.ext hb4
      have y0 := B4.cell 0
      have y1 := B4.cell 1
      have y2 := B4.cell 2
      have hs4 := e4.size
      have ow4 : OwnT w2 w4 u8 L := own_ext (own_ext hown.out HE3.out) hb4
      have HOW := Lib.hid ow4
      clear ow4 hown B3
      cases qb with
      | true =>
        have hj1 := HJ1.out (of_decide_eq_true HQB.out)
        have HJ := Lib.hid hj1
        clear hj1 HJ1 HJ2 HQB
        go_wp2_with fail
        go_roundw
        case rel => exact ⟨j + 1, by go_num, by omega, e4, Lib.hid (by rw [HJ.out]; exact HOW.out)⟩
        case measure => simp [intOf]; omega
      | false =>
        have hj1 := HJ2.out (of_decide_eq_false HQB.out)
        have HJ := Lib.hid hj1
        clear hj1 HJ1 HJ2 HQB
        go_wp2_with (at_builtin; refine wpl_app (by rfl) _ _ _ (by rfl) w2.heap.size 62 i0 _ 3 24 Tryd.underlying54 hi0 hz0 hz1 hz2 rfl (by omega) u8 _ _ (by rfl) ((HOW.out).alloc _) w4.heap.size 1 (Tl.cells ⟨t0, t1, t2⟩) rfl (by rfl) (news_new w4 _ _ _ rfl) (oneT _) (by omega) (by omega) (by simp; omega) ?_; intro g cap w5 own5 hext5)
        go_roundw
        case rel => exact ⟨j + 1, by go_num, by omega, hext5 _ (Nat.le_refl _) (by (repeat (with_reducible first | exact Ext.refl _ | assumption | refine Ext.drew ?_ | refine Ext.drewN ?_ _ | refine Ext.alloc ?_ _ | refine Ext.trans ?_ (by with_reducible assumption)))), OwnT.mk own5 (by rw [HJ.out]; simp) (by rw [HJ.out]; simp [List.flatMap_append])⟩
        case measure => simp [intOf]; omega
    · obtain rfl : j = m := by omega
      go_wp2_with fail
      go_ret2
      refine ⟨⟨_, rfl, ?_⟩, E2.trans hbw⟩
      rw [HBV.out]; exact own_lower hown.out hE2

def whlK (es : List Ent) (h : Hd) (key : Int) : Int :=
  if verK h key ≠ 0 then verK h key else if entsErr es ≠ 0 then entsErr es else if (es.length : Int) ≠ h.size then 3 else if ofL (es.map Ent.leaf) ≠ h.root then 8 else 0
set_option maxRecDepth 100000 in
set_option maxHeartbeats 1000000 in
theorem AWhole_any (A : Option Addr) (n c : Nat) (es : List Ent) (h : Hd) (key : Int) (w : World) (hD : DebG w) (hP : PowG w) (hr : Rd w 2 A n c (es.flatMap Ent.cells)) (hm : c ≤ maxLen) :
    Calls Tryd.prog 32 #[.slice A n c, h.val, .int .i64 key] w fun e w' => e = .returned (errR (whlK es h key)) ∧ Ext w w' := by
  obtain ⟨hE, hN, hG0⟩ := errR_rules
  have hx := hr.lenE
  have HV := Lib.hid fun W (e : Ext w W) => Verify_any h key W (hD.ext e) (hP.ext e)
  have HR := Lib.hid hr
  have HW : Hid (whlK es h key = if verK h key ≠ 0 then verK h key else if entsErr es ≠ 0 then entsErr es else if (n : Int) ≠ h.size then 3 else if ofL (es.map Ent.leaf) ≠ h.root then 8 else 0) := by rw [← hx]; exact rfl
  have HL1 : Hid (entsOk es → entsErr es = 0 ∧ n ≤ 200 ∧ leafsOk (es.map Ent.leaf)) := Lib.hid fun hk => ⟨entsErr_ok hk, by rw [← hx]; exact hk.1, ⟨by rw [List.length_map]; exact hk.1, by
    unfold allV
    rw [List.all_eq_true]
    intro x hx
    rw [List.mem_map] at hx
    obtain ⟨e, _, rfl⟩ := hx
    exact vld_sum _⟩⟩
  have HLO := Lib.hid (Leafs_ok A n c es)
  have HLB := Lib.hid (Leafs_bad A n c es)
  rw [hx] at HLO
  obtain ⟨vk, hvk⟩ : ∃ v, verK h key = v := ⟨_, rfl⟩
  obtain ⟨wk, hwk⟩ : ∃ v, whlK es h key = v := ⟨_, rfl⟩
  rw [hvk] at HV HW
  rw [hwk] at HW ⊢
  clear hvk hwk hD hP hr hx
  obtain ⟨a0, a1, a2, a3⟩ := h
  simp only [Hd.val] at *
  have A0 := Bk.at_ w 40 #[.int .i64 a0, .int .i64 a1, .int .i64 a2, .int .i64 a3] w.heap.size rfl
  have e0 : Ext w (w.alloc (.cells #[.int .i64 a0, .int .i64 a1, .int .i64 a2, .int .i64 a3] 40)) := by (repeat (with_reducible first | exact Ext.refl _ | assumption | refine Ext.drew ?_ | refine Ext.drewN ?_ _ | refine Ext.alloc ?_ _ | refine Ext.trans ?_ (by with_reducible assumption)))
  go_enter Tryd.func32, Tryd.ntmps32
  go_upto_region 1 with (fail)
  generalize (w.alloc (.cells #[.int .i64 a0, .int .i64 a1, .int .i64 a2, .int .i64 a3] 40)) = W0 at *
  obtain ⟨g0, hg0⟩ : ∃ g, w.heap.size = g := ⟨_, rfl⟩
  rw [hg0] at A0
  try rw [hg0]
  have HE0 := Lib.hid e0
  clear e0 hg0
  have y0 := A0.cell 0
  have y1 := A0.cell 1
  have y2 := A0.cell 2
  have y3 := A0.cell 3
  go_wp2_with fail
  refine (HV.out _ HE0.out).mono ?_
  rintro _ w1 ⟨rfl, hb1⟩
  have HE1 := Lib.hid (HE0.out.trans hb1)
  have A1 := A0.ext hb1
  clear y0 y1 y2 y3 HV HE0 A0 hb1
  by_cases hv : vk = 0
  case neg =>
    obtain rfl : wk = vk := HW.out.trans (if_pos hv)
    have hok := isOk_no hv
    clear hv HW
    go_wp2_with fail
    go_ret
    exact ⟨rfl, HE1.out⟩
  subst hv
  rw [errR_0]
  have HW1 := Lib.hid (HW.out.trans (if_neg (not_not_intro rfl)))
  clear HW
  by_cases hk : entsOk es
  case neg =>
    have hne := entsErr_bad hk
    obtain rfl : wk = entsErr es := HW1.out.trans (if_pos hne)
    have HNE := Lib.hid hne
    have HK := Lib.hid hk
    clear hne hk HW1
    go_wp2_with fail
    refine (HLB.out _ (HR.out.ext HE1.out) hm HK.out).mono ?_
    rintro _ w2 ⟨rfl, hb2⟩
    simp only [errV]
    go_wp2_with fail
    go_ret
    exact ⟨by rw [errR_ne HNE.out]; rfl, HE1.out.trans hb2⟩
  obtain ⟨h0, hn, hlo⟩ := HL1.out hk
  have HW2 := Lib.hid (HW1.out.trans (if_neg (not_not_intro h0)))
  have HK := Lib.hid hk
  have HLV := Lib.hid hlo.2
  clear h0 hk hlo HW1 HL1 HLB
  obtain ⟨xs, hxs⟩ : ∃ xs, es.map Ent.leaf = xs := ⟨_, rfl⟩
  rw [hxs] at HLO HLV HW2
  obtain ⟨r, hr2⟩ : ∃ v, ofL xs = v := ⟨_, rfl⟩
  have HO := Lib.hid hr2
  rw [hr2] at HW2
  clear hxs hr2
  go_wp2_with fail
  refine (HLO.out _ (HR.out.ext HE1.out) hm HK.out).mono ?_
  rintro _ w2 ⟨⟨v2, rfl, own2⟩, hb2⟩
  obtain ⟨A2', c2, rfl, hc2, R2, _⟩ := own_rd own2
  have HR2 := Lib.hid R2
  have HE2 := Lib.hid (HE1.out.trans hb2)
  have A2 := A1.ext hb2
  have y0 := A2.cell 0
  clear own2 R2 hb2 A1 HE1
  by_cases h3 : (n : Int) = a0
  case neg =>
    obtain rfl : wk = 3 := HW2.out.trans (if_pos h3)
    have q1 : ((n : Int) != a0) = true := by simp [h3]
    clear h3 HW2
    go_wp2_with fail
    go_ret
    exact ⟨rfl, HE2.out⟩
  have HW3 := Lib.hid (HW2.out.trans (if_neg (not_not_intro h3)))
  subst h3
  have x1 : ∀ x : WE w2, x.W.cell? ⟨g0, 1, none⟩ = some (.int .i64 a1) := fun x => (A2.ext x.h).cell 1
  have HOF := Lib.hid fun W (e : Ext w2 W) => Of_any n A2' n c2 xs W (Nat.le_refl _) (HR2.out.ext e) hc2 (by omega) HLV.out
  rw [HO.out] at HOF
  clear HW2
  go_upto_region 9 with (fail)
  (refine wp_region_ext (w0 := w2) (by kernel_rfl) (by kernel_rfl) (by (repeat (with_reducible first | exact Ext.refl _ | assumption | refine Ext.drew ?_ | refine Ext.drewN ?_ _ | refine Ext.alloc ?_ _ | refine Ext.trans ?_ (by with_reducible assumption)))) ?_; (repeat (go_big_quiet_step ((go_at_call 67; exact quietE (HOF.out _ (WE.h _)))))); refine wpQuiet_nil ?_)
  intro w3 hb3
  clear x1 y0
  have e3 := HE2.out.trans hb3
  by_cases h8 : r = a1
  · obtain rfl : wk = 0 := HW3.out.trans (if_neg (not_not_intro h8))
    subst h8
    go_wp2_with fail
    go_ret
    exact ⟨rfl, e3⟩
  · obtain rfl : wk = 8 := HW3.out.trans (if_pos h8)
    have q1 : (r != a1) = true := by simp [h8]
    have q2 : (r == a1) = false := by simp [h8]
    clear h8 HW3
    go_wp2_with fail
    go_ret
    exact ⟨rfl, e3⟩
end Go.Proofs.YtelcabjhbgkfmaaDoor
