import Derived.Test.YtblojobgchkipaaLast
import Derived.Test.YtblojobgchkipaaPairsSame
import Derived.Laws.Cover1
import Derived.Laws.AppendOwnNone
import Derived.Deep.DeepCutAuto
import Derived.Deep.CutRange
import Derived.Deep.RegionHeld3
namespace Go.Proofs.Ytblojobgchkipaa.storeLast
open Go.RowKit
set_option linter.unusedVariables false
attribute [local go_sem ↓] Go.wp_at_zero Go.wp_at_succ

set_option maxRecDepth 100000 in
set_option maxHeartbeats 2000000 in
theorem walk (A : Option Addr) (n c : Nat) (l : List Pr) (key ka kb kc : ByteArray) (w : World) (hx : l.length = n) (m : c ≤ maxLen) (R : Rd w 3 A n c (l.flatMap Pr.cells)) (z1 : key.size ≤ 140737488355328) (z2 : ka.size ≤ 140737488355328) (z3 : kb.size ≤ 140737488355328) (z4 : kc.size ≤ 140737488355328) :
    Calls Try.prog 6 #[.slice A n c, .string key, .string ka, .string kb, .string kc] w fun e w' => e = .returned (.bool true) ∧ Ext w w' := by
  obtain ⟨hE, hN, hG⟩ := errR_rules
  have hms : c ≤ 9223372036854775807 := by unfold maxLen at m; omega
  have HX := Lib.hid hx
  have HL := Lib.hid R.2.1
  clear hx
  have k1 : Hid (putK [] ⟨⟨#[97]⟩, ⟨#[120]⟩, false⟩ = 0) := by show _ = _; decide
  have k2 : Hid (putK [⟨⟨#[97]⟩, ⟨#[120]⟩, false⟩] ⟨⟨#[97]⟩, ⟨#[121]⟩, false⟩ = 0) := by show _ = _; decide
  have l1 : Hid (storeL [] ⟨⟨#[97]⟩, ⟨#[120]⟩, false⟩ = [⟨⟨#[97]⟩, ⟨#[120]⟩, false⟩]) := by show _ = _; unfold storeL; rw [if_pos k1.out]; rfl
  have l2 : Hid (storeL [⟨⟨#[97]⟩, ⟨#[120]⟩, false⟩] ⟨⟨#[97]⟩, ⟨#[121]⟩, false⟩ = [⟨⟨#[97]⟩, ⟨#[121]⟩, false⟩]) := by show _ = _; unfold storeL; rw [if_pos k2.out]; unfold putL; rw [if_pos (by decide)]; rfl
  have g1 : Hid (getV [⟨⟨#[97]⟩, ⟨#[121]⟩, false⟩] ⟨#[97]⟩ = ⟨#[121]⟩) := by show _ = _; rfl
  have g2 : Hid (getK [⟨⟨#[97]⟩, ⟨#[121]⟩, false⟩] ⟨#[97]⟩ = 0) := by show _ = _; rfl
  go_enter Try.func6, Try.ntmps6
  go_wp2_with fail
  refine (SNew_any w.heap.size w (Nat.le_refl _)).mono ?_
  rintro _ w1 ⟨rfl, S1, e1⟩
  go_wp2_with fail
  refine (SPut_any w.heap.size _ _ _ ⟨#[97]⟩ ⟨#[120]⟩ w1 S1 e1.size).mono ?_
  rw [k1.out, l1.out, errR_0]
  rintro _ w2 ⟨rfl, v2, S2, c2, -⟩
  have e2 := Chg.keep e1 S1 (Nat.le_refl _) c2
  clear S1 c2 e1
  go_wp2_with fail
  refine (SPut_any w.heap.size _ _ _ ⟨#[97]⟩ ⟨#[121]⟩ w2 S2 e2.size).mono ?_
  rw [k2.out, l2.out, errR_0]
  rintro _ w3 ⟨rfl, v3, S3, c3, -⟩
  have e3 := Chg.keep e2 S2 (Nat.le_refl _) c3
  clear S2 c3 e2
  go_wp2_with fail
  refine (SLen_any w.heap.size _ _ _ w3 S3).mono ?_
  rintro _ _ ⟨rfl, rfl⟩
  go_wp2_with fail
  refine (SGet_any w.heap.size _ _ _ ⟨#[97]⟩ w3 S3).mono ?_
  rw [g1.out, g2.out, errR_0]
  rintro _ w4 ⟨rfl, hb4⟩
  have e4 := e3.trans hb4
  clear S3 e3 hb4 k1 k2 l1 l2 g1 g2
  go_wp2_with fail
  refine (SNew_any w4.heap.size w4 (Nat.le_refl _)).mono ?_
  rintro _ w5 ⟨rfl, S5, e5⟩
  have HS5 := Lib.hid S5
  clear S5
  go_wp2_with fail
  have HT0 : Hid (Tracks [] key false ⟨#[]⟩) := tracks_nil _ _
  go_loopw [15, 16, 17, 18] (fun x b y _ wr => ∃ (i : Nat) (es : List Pr) (v : Value) (wt : ByteArray) (bb : Bool), x = .string wt ∧ b = .bool bb ∧ y = .int .i64 i ∧ i ≤ n ∧ i ≤ 60 ∧ Ext w4 wr ∧ Hid (StAt wr w4.heap.size w4.heap.size v es) ∧ Hid (Tracks es key bb wt)) (fun _ _ y _ _ => 60 - (intOf y).toNat)
  case atStart => exact ⟨0, [], _, ⟨#[]⟩, false, rfl, rfl, rfl, by omega, by omega, e5, HS5, HT0⟩
  case round =>
    obtain ⟨i, es, v, wt, bb, rfl, rfl, rfl, hi, hi6, hbw, hst, htr⟩ := hrel
    by_cases hc : i < n ∧ i < 60
    · obtain ⟨hc1, hc2⟩ := hc
      have hgj := List.getElem?_eq_getElem (l := l) (i := i) (by rw [HX.out]; exact hc1)
      obtain ⟨ad, rfl, hb, y0, y1, y2⟩ := (R.ext (e4.trans hbw)).getP hgj
      generalize l[i]'(by rw [HX.out]; exact hc1) = q at *
      obtain ⟨pk, pv, pg⟩ := q
      simp only at y0 y1 y2
      have HA := HL.out
      obtain ⟨ad', h1, hbl, _⟩ := R.2.2 (by omega)
      obtain rfl : ad = ad' := by injection h1
      have hlt : (ad.add (i * 3)).block < w4.heap.size := by rw [blk_add]; exact e4.lt hbl
      have d0 : w4.cell? (ad.add (i * 3)) = some (.string pk) := (hbw.cell (p := ad.add (i * 3)) hlt).symm.trans y0
      have d1 : w4.cell? ⟨(ad.add (i * 3)).block, (ad.add (i * 3)).off + 1, none⟩ = some (.string pv) := (hbw.cell (p := ⟨(ad.add (i * 3)).block, (ad.add (i * 3)).off + 1, none⟩) hlt).symm.trans y1
      have d2 : w4.cell? ⟨(ad.add (i * 3)).block, (ad.add (i * 3)).off + 2, none⟩ = some (.bool pg) := (hbw.cell (p := ⟨(ad.add (i * 3)).block, (ad.add (i * 3)).off + 2, none⟩) hlt).symm.trans y2
      have D0 := Lib.hid d0
      have D1 := Lib.hid d1
      have D2 := Lib.hid d2
      obtain ⟨p', hp'⟩ : ∃ p' : Pr, p' = ⟨pk, if pg = true then ⟨#[]⟩ else pv, pg⟩ := ⟨_, rfl⟩
      have HP' := Lib.hid hp'
      have hci : (i : Int) < 60 := by omega
      clear hgj d0 d1 d2 h1 hp'
      go_upto_if 63 with (fail)
      go_cut [18] (fun x wc => x = errR (putK es p') ∧ Ext w4 wc ∧ ∃ v7, Hid (StAt wc w4.heap.size w4.heap.size v7 (storeL es p')))
      case first =>
        as_aux_lemma =>
        cases pg with
        | true =>
          have hp2 : p' = ⟨pk, ⟨#[]⟩, true⟩ := HP'.out
          subst hp2
          go_wp2_with fail
          refine (SDrop_any w4.heap.size _ v es pk wr hst.out hbw.size).mono ?_
          obtain ⟨kk, HKK⟩ : ∃ x, Hid (putK es ⟨pk, ⟨#[]⟩, true⟩ = x) := ⟨_, rfl⟩
          rw [HKK.out]
          rintro _ w7 ⟨rfl, v7, S7, c7, -⟩
          have E7 := Chg.keep hbw hst.out (Nat.le_refl _) c7
          have HS7 := Lib.hid S7
          clear S7 c7
          go_wp2_with fail
          go_meet
          exact ⟨by rw [HKK.out], E7, v7, HS7⟩
        | false =>
          have hp2 : p' = ⟨pk, pv, false⟩ := HP'.out
          subst hp2
          have hput : Calls Try.prog 20 #[.pointer (some ⟨w4.heap.size, 0, none⟩), .string pk, .string pv] wr.drew fun e w' => e = .returned (errR (putK es ⟨pk, pv, false⟩)) ∧ Ext w4 w' ∧ ∃ v7, Hid (StAt w' w4.heap.size w4.heap.size v7 (storeL es ⟨pk, pv, false⟩)) :=
            (SPut_any w4.heap.size _ v es pk pv wr.drew hst.out.drew hbw.size).mono fun e w' ⟨he, v7, S7, c7, _⟩ => ⟨he, Chg.keep hbw.drew hst.out.drew (Nat.le_refl _) c7, v7, S7⟩
          have HPUT := Lib.hid hput
          clear hput
          go_wp2_with fail
          clear y0 y1 y2
          go_region_held3 (fun W => W.cell? (ad.add (i * 3)) = some (.string pk) ∧ W.cell? ⟨(ad.add (i * 3)).block, (ad.add (i * 3)).off + 1, none⟩ = some (.string pv)) (exact ⟨(Ext.cell (a := w4) (p := ad.add (i * 3)) (by (repeat (with_reducible first | exact Ext.refl _ | assumption | refine Ext.drew ?_ | refine Ext.drewN ?_ _ | refine Ext.alloc ?_ _ | refine Ext.trans ?_ (by with_reducible assumption)))) hlt).trans D0.out, (Ext.cell (a := w4) (p := ⟨(ad.add (i * 3)).block, (ad.add (i * 3)).off + 1, none⟩) (by (repeat (with_reducible first | exact Ext.refl _ | assumption | refine Ext.drew ?_ | refine Ext.drewN ?_ _ | refine Ext.alloc ?_ _ | refine Ext.trans ?_ (by with_reducible assumption)))) hlt).trans D1.out⟩) (first
            | (go_at_call 20; (with_reducible refine HPUT.out.mono ?_); rintro _ w7 ⟨rfl, E7, HS7⟩)
            | fail)
          all_goals
            go_wp2_with fail
            go_meet
            exact ⟨rfl, E7, HS7⟩
      case rest =>
      as_aux_lemma =>
      obtain ⟨rfl, E7, v7, HS7⟩ := hcut
      have y0' := (E7.cell (p := ad.add (i * 3)) hlt).trans D0.out
      have y1' := (E7.cell (p := ⟨(ad.add (i * 3)).block, (ad.add (i * 3)).off + 1, none⟩) hlt).trans D1.out
      have y2' := (E7.cell (p := ⟨(ad.add (i * 3)).block, (ad.add (i * 3)).off + 2, none⟩) hlt).trans D2.out
      have hb7 : ad.block < wc.heap.size := by have := hlt; rw [blk_add] at this; exact E7.lt this
      have hk' : p'.key = pk := by rw [HP'.out]
      have hg' : p'.gone = pg := by rw [HP'.out]
      have hv' : p'.gone = false → p'.value = pv := by rw [HP'.out]; intro h; show (if pg = true then _ else _) = _; rw [if_neg (by rw [show pg = false from h]; decide)]
      have HO := hst.out.asc
      have HMISS : Hid (putK es p' ≠ 0 ∨ p'.key ≠ key → Tracks (storeL es p') key bb wt) := Lib.hid fun h => tracks_miss HO h htr.out
      have HHIT : Hid (putK es p' = 0 → pk = key → Tracks (storeL es p') key (!pg) pv) := Lib.hid fun h h2 => by rw [← hg']; exact tracks_hit HO h (hk'.trans h2) hv'
      have HK' := Lib.hid hk'
      obtain ⟨kk, HKK⟩ : ∃ x, Hid (putK es p' = x) := ⟨_, rfl⟩
      rw [HKK.out]
      clear y0 y1 y2 hg' hv' hk' HO
      by_cases hz : kk = 0
      · subst hz
        rw [errR_0]
        by_cases hkey : pk = key
        · have HT := Lib.hid (HHIT.out HKK.out hkey)
          subst hkey
          go_wp2_with fail
          go_roundw
          case rel => exact ⟨i + 1, _, v7, pv, !pg, rfl, rfl, by go_num, by omega, by omega, E7, HS7, HT⟩
          case measure => simp [intOf]; omega
        · have HT := Lib.hid (HMISS.out (.inr (by rw [HK'.out]; exact hkey)))
          have hbe := (Lib.bytes_beq_false_iff pk key).2 hkey
          clear hkey
          go_wp2_with fail
          go_roundw
          case rel => exact ⟨i + 1, _, v7, wt, bb, rfl, rfl, by go_num, by omega, by omega, E7, HS7, HT⟩
          case measure => simp [intOf]; omega
      · have HT := Lib.hid (HMISS.out (.inl (by rw [HKK.out]; exact hz)))
        have hok := isOk_no hz
        clear hz
        go_wp2_with fail
        go_roundw
        case rel => exact ⟨i + 1, _, v7, wt, bb, rfl, rfl, by go_num, by omega, by omega, E7, HS7, HT⟩
        case measure => simp [intOf]; omega
    · have HTR := htr
      have hci : ¬ ((i : Int) < (n : Int)) ∨ ((i : Int) < (n : Int) ∧ ¬ (i : Int) < 60) := by omega
      clear hc
      have E5 := e4.trans hbw
      go_upto_region 11 with (fail)
      go_cut [56] from 49 to 55 (fun v wc => v = .bool false ∧ wr = wc)
      case first =>
        as_aux_lemma =>
        rcases hci with h | ⟨h, h2⟩
        · go_wp2_with fail
          go_meet
          exact ⟨rfl, rfl⟩
        · go_wp2_with fail
          go_meet
          exact ⟨rfl, rfl⟩
      case rest =>
      obtain ⟨rfl, rfl⟩ := hcut
      clear hci
      go_wp2_with fail
      refine (SGet_any w4.heap.size _ v es key wr hst.out).mono ?_
      obtain ⟨gv, HGV⟩ : ∃ x, Hid (getV es key = x) := ⟨_, rfl⟩
      obtain ⟨gk, HGK⟩ : ∃ x, Hid (getK es key = x) := ⟨_, rfl⟩
      rw [HGV.out, HGK.out]
      rintro _ w6 ⟨rfl, hb6⟩
      have hok : isOk gk = bb := by rw [← HGK.out]; exact HTR.out.1
      have hgw : bb = true → gv = wt := by rw [← HGV.out]; exact HTR.out.2
      have E6 := E5.trans hb6
      have HS6 := Lib.hid (hst.out.ext hb6)
      have HGW := Lib.hid hgw
      clear hgw
      have HOK := Lib.hid hok
      clear hok
      go_upto_region 21 with (fail)
      go_cut [122] from 111 to 121 (fun v wc => v = .bool false ∧ w6 = wc)
      case first =>
        as_aux_lemma =>
        have hok := HOK.out
        cases bb with
        | true =>
          have hgw := HGW.out rfl
          subst hgw
          go_wp2_with fail
          go_meet
          exact ⟨rfl, rfl⟩
        | false =>
          go_wp2_with fail
          go_meet
          exact ⟨rfl, rfl⟩
      case rest =>
      as_aux_lemma =>
      obtain ⟨rfl, rfl⟩ := hcut
      obtain ⟨gt, HGT⟩ : ∃ gt : Bool, Hid (gt = decide (¬ (ordAB ka kb ∧ ordAB kb kc))) := ⟨_, rfl⟩
      go_upto_region 23 with (fail)
      go_cut [130] from 123 to 129 (fun v wc => v = .bool gt ∧ w6 = wc)
      case first =>
        as_aux_lemma =>
        have hgt := HGT.out
        rcases ord3 ka kb with ⟨o1, h1⟩ | ⟨o1, h1⟩ | ⟨o1, h1, h1'⟩
        · rcases ord3 kb kc with ⟨o2, h2⟩ | ⟨o2, h2⟩ | ⟨o2, h2, h2'⟩
          · have : gt = false := by rw [hgt]; exact decide_eq_false (not_not_intro ⟨o1, o2⟩)
            subst this
            clear hgt HGT o1 o2
            go_wp2_with fail
            go_meet
            exact ⟨rfl, rfl⟩
          · have : gt = false := by rw [hgt]; exact decide_eq_false (not_not_intro ⟨o1, o2⟩)
            subst this
            clear hgt HGT o1 o2
            subst h2
            go_wp2_with fail
            go_meet
            exact ⟨rfl, rfl⟩
          · have : gt = true := by rw [hgt]; exact decide_eq_true fun h => o2 h.2
            subst this
            clear hgt HGT o1 o2
            go_wp2_with fail
            go_meet
            exact ⟨rfl, rfl⟩
        · subst h1
          rcases ord3 ka kc with ⟨o2, h2⟩ | ⟨o2, h2⟩ | ⟨o2, h2, h2'⟩
          · have : gt = false := by rw [hgt]; exact decide_eq_false (not_not_intro ⟨o1, o2⟩)
            subst this
            clear hgt HGT o1 o2
            go_wp2_with fail
            go_meet
            exact ⟨rfl, rfl⟩
          · have : gt = false := by rw [hgt]; exact decide_eq_false (not_not_intro ⟨o1, o2⟩)
            subst this
            clear hgt HGT o1 o2
            subst h2
            go_wp2_with fail
            go_meet
            exact ⟨rfl, rfl⟩
          · have : gt = true := by rw [hgt]; exact decide_eq_true fun h => o2 h.2
            subst this
            clear hgt HGT o1 o2
            go_wp2_with fail
            go_meet
            exact ⟨rfl, rfl⟩
        · have : gt = true := by rw [hgt]; exact decide_eq_true fun h => o1 h.1
          subst this
          clear hgt HGT o1
          go_wp2_with fail
          go_meet
          exact ⟨rfl, rfl⟩
      case rest =>
      as_aux_lemma =>
      obtain ⟨rfl, rfl⟩ := hcut
      cases gt with
      | true =>
        go_wp2_with fail
        go_ret
        exact ⟨rfl, E6⟩
      | false =>
        have hord : ordAB ka kb ∧ ordAB kb kc := by
          exact Decidable.byContradiction fun h => by
            have := HGT.out
            rw [decide_eq_true h] at this
            cases this
        have HCAT := Lib.hid (range_cat (es := es) hord.1 hord.2)
        have hl60 := HS6.out.len
        have L1 := Lib.hid (range_len es ka kb)
        have L2 := Lib.hid (range_len es kb kc)
        have L3 := Lib.hid (range_len es ka kc)
        clear hord HGT
        go_wp2_with fail
        refine (SRange_any w4.heap.size _ v es ka kb w6 HS6.out).mono ?_
        rintro _ w7 ⟨⟨va, rfl, oa⟩, hb7⟩
        have S7 := HS6.out.ext hb7
        have HOA := Lib.hid oa
        clear oa
        go_wp2_with fail
        refine (SRange_any w4.heap.size _ v es kb kc w7 S7).mono ?_
        rintro _ w8 ⟨⟨vb, rfl, ob⟩, hb8⟩
        have S8 := Lib.hid (S7.ext hb8)
        have oa8 := own_ext HOA.out hb8
        have E8 := (E6.trans hb7).trans hb8
        have hb68 := hb7.trans hb8
        obtain ⟨i0, hi0, hz0, hzs, hzb⟩ := info_parts info_pair
        obtain ⟨B2, c2, hvb, hc2, R2, hnil2⟩ := own_rd ob
        clear S7 ob HOA
        have hadd : ∀ (v' : Value) (w' : World), w'.ownsRow w6.heap.size 28 3 v' ((rangeL es ka kb).length + (rangeL es kb kc).length) ((rangeL es ka kb).flatMap Pr.cells ++ (rangeL es kb kc).flatMap Pr.cells) → w'.ownsRow w6.heap.size 28 3 v' (rangeL es ka kc).length ((rangeL es ka kc).flatMap Pr.cells) := fun v' w' h => by
          rw [← List.flatMap_append, ← List.length_append, HCAT.out] at h
          exact h
        have HADD := Lib.hid hadd
        have hb6 : w6.heap.size ≤ w8.heap.size := hb68.size
        have HR2 := Lib.hid R2
        have L1 := L1.out
        have L2 := L2.out
        clear hadd R2
        have hfin : ∀ (v9 : Value) (w9 : World), w9.ownsRow w6.heap.size 28 3 v9 (rangeL es ka kc).length ((rangeL es ka kc).flatMap Pr.cells) → w8.grownBy w9 va.ownBlock → ∃ A9 c9, v9 = .slice A9 (rangeL es ka kc).length c9 ∧ Ext w w9 ∧
            Hid (Calls Try.prog 24 #[.pointer (some ⟨w4.heap.size, 0, none⟩), .string ka, .string kc] w9 fun e w' => (∃ A' c', e = .returned (.slice A' (rangeL es ka kc).length c') ∧ Hid (Calls Try.prog 11 #[v9, .slice A' (rangeL es ka kc).length c'] w' fun e w'' => e = .returned (.bool true) ∧ Ext w' w'')) ∧ Ext w9 w') := fun v9 w9 ho hg => by
          have hE9 : Ext w6 w9 := (hb68.gb va.ownBlock |> fun h => gb_row (hb68.gb none) hg fun g hgg => own_block oa8 g hgg) |> gb_none
          obtain ⟨A9, c9, rfl, hc9, R9, _⟩ := own_rd ho
          refine ⟨A9, c9, rfl, E6.trans hE9, ?_⟩
          refine (SRange_any w4.heap.size _ v es ka kc w9 (HS6.out.ext hE9)).mono ?_
          rintro e w' ⟨⟨v', rfl, ho'⟩, hb'⟩
          obtain ⟨A', c', rfl, hc', R', _⟩ := own_rd ho'
          refine ⟨⟨A', c', rfl, ?_⟩, hb'⟩
          exact Pairs_same A9 A' _ c9 c' _ w' (R9.ext hb') R' (by have := L3.out; omega)
        have HFIN := Lib.hid hfin
        clear hfin
        obtain ⟨n1, hn1⟩ : ∃ n, (rangeL es ka kb).length = n := ⟨_, rfl⟩
        obtain ⟨n2, hn2⟩ : ∃ n, (rangeL es kb kc).length = n := ⟨_, rfl⟩
        obtain ⟨xa, HXA⟩ : ∃ x, Hid ((rangeL es ka kb).flatMap Pr.cells = x) := ⟨_, rfl⟩
        obtain ⟨xb, HXB⟩ : ∃ x, Hid ((rangeL es kb kc).flatMap Pr.cells = x) := ⟨_, rfl⟩
        have hob := cells_one (rangeL es kb kc)
        rw [hn1, hn2, HXA.out, HXB.out] at HADD
        rw [hn1, HXA.out] at oa8
        rw [hn2, HXB.out] at HR2
        rw [HXB.out] at hob
        rw [hn2] at hnil2
        have HOB := Lib.hid hob
        have hxl := HR2.out.1
        have HC2 : ∀ ad, B2 = some ad → ∀ j u, xb[j]? = some u → w8.cell? (ad.add j) = some u := fun ad he j u hj => by
          have hp : 0 < n2 := by
            rcases Nat.eq_zero_or_pos n2 with h | h
            · have := (List.getElem?_eq_some_iff.1 hj).1; omega
            · exact h
          obtain ⟨ad', h1, _, h3⟩ := HR2.out.2.2 hp
          rw [he] at h1
          injection h1 with h1
          rw [h1]; exact h3 j u hj
        have HHC2 := Lib.hid HC2
        clear HC2 hob
        rw [hn2] at hvb
        have hn12 : n1 + n2 ≤ 120 := by omega
        clear hn1 hn2
        cases B2 with
        | none =>
          have h0 : n2 = 0 := by
            rcases Nat.eq_zero_or_pos n2 with h | h
            · exact h
            · obtain ⟨ad', h1, _⟩ := HR2.out.2.2 h
              cases h1
          subst h0
          obtain rfl : c2 = 0 := by
            rcases hnil2 rfl with h | h
            · exact h.2
            · exact absurd rfl h
          have hx0 : xb = [] := List.eq_nil_of_length_eq_zero (by omega)
          rw [hx0, List.append_nil, Nat.add_zero] at HADD
          have HO8 := Lib.hid oa8
          have hF := HFIN.out va w8 (HADD.out _ _ oa8) ((Ext.refl w8).gb _)
          have HF := Lib.hid hF
          have HVB := Lib.hid hvb
          clear hF hvb
          clear hnil2 oa8 hx0
          go_wp2_with (at_builtin; refine wpList_append_own_none rfl _ _ 22 rfl w6.heap.size 28 i0 3 Try.underlying22 hi0 _ _ _ rfl HO8.out HVB.out ?_; obtain ⟨A9, c9, rfl, E9, HC9⟩ := HF.out)
          refine HC9.out.mono ?_
          rintro _ w10 ⟨⟨A', c', rfl, HP⟩, hb10⟩
          go_wp2_with fail
          refine HP.out.mono ?_
          rintro _ w11 ⟨rfl, hb11⟩
          go_wp2_with fail
          go_ret
          exact ⟨rfl, (E9.trans hb10).trans hb11⟩
        | some ad =>
          have hcc := HHC2.out ad rfl
          have HCC := Lib.hid hcc
          have HO8 := Lib.hid oa8
          have HVB := Lib.hid hvb
          clear hnil2 hcc oa8 hvb
          go_wp2_with (at_builtin; go_loud (refine wpList_append_own _ rfl _ _ 22 rfl w6.heap.size 28 i0 _ 3 40 Try.underlying22 hi0 hz0 hzs hzb rfl (by omega) _ _ _ rfl HO8.out ad n2 _ xb HVB.out hxl HCC.out HOB.out (by unfold maxLen; omega) (by omega) hb6 ?_); intro v9 w9 own9 hg9 hH9; clear hH9; obtain ⟨A9, c9, rfl, E9, HC9⟩ := HFIN.out v9 w9 (HADD.out _ _ own9) hg9)
          all_goals
            refine HC9.out.mono ?_
            rintro _ w10 ⟨⟨A', c', rfl, HP⟩, hb10⟩
            go_wp2_with fail
            refine HP.out.mono ?_
            rintro _ w11 ⟨rfl, hb11⟩
            go_wp2_with fail
            go_ret
            exact ⟨rfl, (E9.trans hb10).trans hb11⟩
end Go.Proofs.Ytblojobgchkipaa.storeLast
