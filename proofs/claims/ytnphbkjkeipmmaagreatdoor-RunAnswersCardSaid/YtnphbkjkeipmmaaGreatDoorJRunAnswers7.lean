/- the references' desk: a step, entries. -/
import Derived.Test.YtnphbkjkeipmmaaGreatDoorJRunAnswers6
namespace Go.Proofs.YtnphbkjkeipmmaaGreatDoor
open Go.RowKit Go.WideShapes
set_option linter.unusedVariables false
attribute [local go_sem ↓] Go.wp_at_zero Go.wp_at_succ

set_option maxRecDepth 100000 in
set_option maxHeartbeats 8000000 in
theorem RStep_2 (S : Nat → Prop) (db mb : Nat) (ve va vw : Value) (d : Dk) (bad : Bool) (a b : Nat) (w : World) (h : DAt 33 31 w db ve mb va vw d) (h2 : ∀ g, DFoot db ve mb va vw g → S g) (hS : ∀ g, w.heap.size ≤ g → S g) (hw : d.m.want = ⟨2, (a : Int), (b : Int)⟩) (hab : a < b) (hbl : b ≤ d.es.length) :
    Calls Tryz.prog 18 #[.pointer (some ⟨db, 0, none⟩), .bool bad] w (RSt S db d bad w) := by
  have hgd := stepD_good h.good bad
  rw [stepD_ok h.good] at hgd
  dsimp only at hgd
  have hsr := sent_2 h.good hw bad
  unfold RSt
  have HHR := Lib.hid fun W (e : Ext w W) A n c A' n' c' hr hm hr' hm' => hear_R (S := S) h h2 hS e (sentR d bad) (A := A) (n := n) (c := c) (A' := A') (n' := n') (c' := c') hr hm hr' hm' hgd
  have HMW : Hid (∀ W, Ext w W → Calls Tryz.prog 17 #[.pointer (some ⟨mb, 0, none⟩)] W fun e w' => e = .returned d.m.want.val ∧ Ext W w') := Lib.hid fun W e => RMWant_any mb va vw d.m W (h.ext e).mir
  rw [hw] at HMW
  simp only [Wt.val] at HMW
  have HSR := Lib.hid hsr
  obtain ⟨A, c, hva, hc1, hrd, -⟩ := own_rd h.own
  have H1 := Lib.hid h
  have hl := h.good.es.1
  have HL : Hid ((((d.es.take b).drop a).flatMap Ent.cells).length = (b - a) * 2) := by
    show _ = _
    rw [flat_len Ent.cells 2 (fun _ => rfl), List.length_drop, List.length_take, Nat.min_eq_left hbl]
  have HLE : Hid (((d.es.take b).drop a).length = b - a) := by
    show _ = _
    rw [List.length_drop, List.length_take, Nat.min_eq_left hbl]
  obtain ⟨n, hn⟩ : ∃ n, d.es.length = n := ⟨_, rfl⟩
  rw [hn] at hva hrd hbl hl
  obtain ⟨ad, hA, hbA, hcA0⟩ := hrd.2.2 (by omega)
  subst hA
  have hpt := hrd.partE (a := a) (b := b) (by omega) hbl
  have hnc := hrd.2.1
  have hcs : c ≤ 9223372036854775807 := by unfold maxLen at hc1; omega
  have HPT := Lib.hid hpt
  have HVA := Lib.hid hva
  have habi : (a : Int) ≤ (b : Int) := by omega
  have hbn : (b : Int) ≤ (n : Int) := by omega
  have hbc : (b : Int) ≤ (c : Int) := by omega
  obtain ⟨i0, hi0, hz0, hzs, hzb⟩ := info_parts info_ent
  obtain ⟨es2, hes2⟩ : ∃ x, (d.es.take b).drop a = x := ⟨_, rfl⟩
  rw [hes2] at HL HLE HPT HSR
  clear hva hc1 hrd hn hpt hcA0 h h2 hS hgd hsr hw hes2
  go_enter Tryz.func18, Tryz.ntmps18
  have y1 : w.cell? ⟨db, 1, none⟩ = some (.pointer (some ⟨mb, 0, none⟩)) := H1.out.bk.cell 1
  go_wp2_with fail
  refine (HMW.out _ (Ext.refl _)).mono ?_
  rintro _ w1 ⟨rfl, hb1⟩
  have B6 := (Bk.at_ w1 60 #[.int .i64 2, .int .i64 a, .int .i64 b] w1.heap.size rfl).alloc (.cells #[.int .i64 2, .int .i64 0, .int .i64 0, .int .i64 0, .int .i64 0, .slice none 0 0, .slice none 0 0] 87)
  have B9 := Bk.at_ (w1.alloc (.cells #[.int .i64 2, .int .i64 a, .int .i64 b] 60)) 87 #[.int .i64 2, .int .i64 0, .int .i64 0, .int .i64 0, .int .i64 0, .slice none 0 0, .slice none 0 0] (w1.heap.size + 1) (by simp)
  have e0 : Ext w ((w1.alloc (.cells #[.int .i64 2, .int .i64 a, .int .i64 b] 60)).alloc (.cells #[.int .i64 2, .int .i64 0, .int .i64 0, .int .i64 0, .int .i64 0, .slice none 0 0, .slice none 0 0] 87)) := (hb1.alloc _).alloc _
  have hg0 : w.heap.size ≤ w1.heap.size := hb1.size
  go_upto_region 14 with (fail)
  generalize ((w1.alloc (.cells #[.int .i64 2, .int .i64 a, .int .i64 b] 60)).alloc (.cells #[.int .i64 2, .int .i64 0, .int .i64 0, .int .i64 0, .int .i64 0, .slice none 0 0, .slice none 0 0] 87)) = W0 at *
  generalize w1.heap.size = g0 at *
  have HG := Lib.hid hg0
  have HE0 := Lib.hid e0
  have HB6 := Lib.hid B6
  have HB9 := Lib.hid B9
  clear hg0 e0 B6 B9 hb1 y1 HMW
  have b0 : ∀ x : WE W0, x.W.cell? ⟨db, 0, none⟩ = some (.slice (some ad) n c) := fun x => by rw [← HVA.out]; exact (H1.out.ext (HE0.out.trans x.h)).bk.cell 0
  have u1 : ∀ x : WE W0, x.W.cell? ⟨g0, 1, none⟩ = some (.int .i64 a) := fun x => (HB6.out.ext x.h).cell 1
  have u2 : ∀ x : WE W0, x.W.cell? ⟨g0, 2, none⟩ = some (.int .i64 b) := fun x => (HB6.out.ext x.h).cell 2
  have y5 : ∀ x : WE W0, x.W.cell? ⟨g0 + 1, 5, none⟩ = some (.slice none 0 0) := fun x => (HB9.out.ext x.h).cell 5
  (refine wp_region_ext_tail (w0 := W0) 11 (by kernel_rfl) (by kernel_rfl) (by (repeat (with_reducible first | exact Ext.refl _ | assumption | refine Ext.drew ?_ | refine Ext.drewN ?_ _ | refine Ext.alloc ?_ _ | refine Ext.trans ?_ (by with_reducible assumption)))) ?_; simp only [List.take_succ_cons, List.take_zero, List.drop_succ_cons, List.drop_zero]; (repeat (go_big_quiet_step (fail))); refine wpQuiet_nil ?_)
  rintro _ ⟨xq, rfl⟩
  obtain ⟨w6, hw6⟩ : ∃ w, xq.W = w := ⟨_, rfl⟩
  have hb6 : Ext W0 w6 := by rw [← hw6]; exact xq.h
  rw [hw6]
  clear hw6 b0 u1 u2 y5
  have hsz6 := Nat.le_trans HE0.out.size hb6.size
  go_upto_region 15 with (at_builtin; refine wpl_apps (by rfl) _ _ _ (by rfl) w.heap.size 67 i0 _ 2 24 Tryz.underlying27 hi0 hz0 hzs hzb rfl (by omega) (.slice none 0 0) 0 [] (by rfl) (own_nil _ _ _ _) (ad.add (a * 2)) (b - a) (c - a) (es2.flatMap Ent.cells) (by rfl) HL.out (fun j u hu => by obtain ⟨ad', e1, _, e3⟩ := (HPT.out.ext (HE0.out.trans hb6)).2.2 (by omega); injection e1 with e1; subst e1; exact e3 j u hu) (ones_ents _) (by omega) (by omega) (by omega) hsz6 ?_; intro g cap w5 own5 hg5 hH5 hl5; rw [Nat.zero_add, List.nil_append] at own5; have B5 := (HB9.out.ext hb6).ext (gb_none hg5); have v5 : w5.cell? ⟨g0 + 1, 5, none⟩ = some (.slice none 0 0) := B5.cell 5; have q5 := B5.frozen 5)
  have E5 : Ext W0 w5 := hb6.trans (gb_none hg5)
  have K9 := B5.set_ 5 (.slice (some ⟨g, 0, none⟩) (b - a) cap)
  have KE := (HE0.out.trans E5).setCell (p := ⟨g0 + 1, 5, none⟩) (by have := HG.out; show _ ≤ g0 + 1; omega) (.slice (some ⟨g, 0, none⟩) (b - a) cap)
  have KO := own5.kept (gb_set w5 (g0 + 1) 5 (.slice (some ⟨g, 0, none⟩) (b - a) cap)) (.inr (own_type own5 B5 (by decide)))
  have HC9 := Lib.hid K9
  have HE9 := Lib.hid KE
  have HKO := Lib.hid KO
  clear K9 KE KO own5 hg5 hH5 B5
  generalize w5.setCell ⟨g0 + 1, 5, none⟩ (.slice (some ⟨g, 0, none⟩) (b - a) cap) = W3 at *
  clear v5 q5
  obtain ⟨hcm3, hrd3⟩ := own_A HKO.out
  have hnc3 := hrd3.2.1
  have hcs3 : cap ≤ 9223372036854775807 := by unfold maxLen at hcm3; omega
  have hge : w.heap.size ≤ g := own_block HKO.out g rfl
  have hne : g ≠ g0 + 1 := fun e => own_type HKO.out HC9.out (by decide) (by rw [e]; rfl)
  have HFZ : Hid (∀ i, W3.frozen? ⟨g, i, none⟩ = false) := Lib.hid fun i => own_frozenG HKO.out i
  have HCM := Lib.hid hcm3
  have x5 := HC9.out.cell 5
  obtain ⟨k, hk⟩ : ∃ k, b - a = k := ⟨_, rfl⟩
  rw [hk] at HC9 hrd3 hnc3 HLE x5
  have hk0 : 0 < k := by omega
  have hk2 : k ≤ 200 := by omega
  cases bad with
  | false =>
    have HF : Hid (sentR d false = ⟨2, hd00, es2, []⟩) := Lib.hid (HSR.out.trans rfl)
    have hh2 := HHR.out
    rw [HF.out] at hh2
    dsimp only at hh2
    have HH2 := Lib.hid hh2
    clear hh2
    have HRD := Lib.hid hrd3
    have hk0i : (0 : Int) < (k : Int) := by omega
    clear hrd3 HKO HFZ hcm3
    try rw [hk]
    go_wp2_with fail
    go_loopw [9] (fun x wr => x = .int .i64 0 ∧ wr = W3) (fun _ _ => 0)
    case atStart => exact ⟨rfl, rfl⟩
    case round =>
      obtain ⟨rfl, rfl⟩ := hrel
      go_upto_region 25 with (fail)
      clear x5
      have z0 := HC9.out.cell 0
      have z1 := HC9.out.cell 1
      have z2 := HC9.out.cell 2
      have z3 := HC9.out.cell 3
      have z4 := HC9.out.cell 4
      have z5 := HC9.out.cell 5
      have z6 := HC9.out.cell 6
      have yd : wr.cell? ⟨db, 1, none⟩ = some (.pointer (some ⟨mb, 0, none⟩)) := (H1.out.ext HE9.out).bk.cell 1
      go_wp2_with fail
      go_region_with (first
        | (go_at_call 38; refine (HH2.out _ (HE9.out.trans ?_) (some ⟨g, 0, none⟩) k cap none 0 0 (HRD.out.ext ?_) (HCM.out) (Rd.nil _ _ _ _) (Nat.zero_le _)).mono ?_; (focus ((repeat (with_reducible first | exact Ext.refl _ | assumption | refine Ext.drew ?_ | refine Ext.drewN ?_ _ | refine Ext.alloc ?_ _ | refine Ext.trans ?_ (by with_reducible assumption))); done)); (focus ((repeat (with_reducible first | exact Ext.refl _ | assumption | refine Ext.drew ?_ | refine Ext.drewN ?_ _ | refine Ext.alloc ?_ _ | refine Ext.trans ?_ (by with_reducible assumption))); done)); rintro _ w5 ⟨rfl, hop⟩; have HOP := Lib.hid hop; clear hop)
        | fail)
      all_goals
        go_wp2_with fail
        go_ret
        rw [HF.out]
        exact ⟨rfl, HOP.out.ext (by (repeat (with_reducible first | exact Ext.refl _ | assumption | refine Ext.drew ?_ | refine Ext.drewN ?_ _ | refine Ext.alloc ?_ _ | refine Ext.trans ?_ (by with_reducible assumption))))⟩
  | true =>
    have HF : Hid (sentR d true = ⟨2, hd00, spoilE es2, []⟩) := Lib.hid (HSR.out.trans rfl)
    have hh2 := HHR.out
    rw [HF.out] at hh2
    dsimp only at hh2
    have HH2 := Lib.hid hh2
    clear hh2
    have HRD : Hid (Rd W3 2 (some ⟨g, 0, none⟩) k cap ((spoilI es2 0).flatMap Ent.cells)) := hrd3
    clear hrd3 HKO hcm3
    try rw [hk]
    go_wp2_with fail
    go_loopw [9] (fun x wr => ∃ i : Nat, x = .int .i64 i ∧ i ≤ k ∧ Hid (Ext w wr) ∧ Hid (Bk wr (g0 + 1) 87 #[.int .i64 2, .int .i64 0, .int .i64 0, .int .i64 0, .int .i64 0, .slice (some ⟨g, 0, none⟩) k cap, .slice none 0 0]) ∧ Hid (Rd wr 2 (some ⟨g, 0, none⟩) k cap ((spoilI es2 i).flatMap Ent.cells)) ∧ Hid (∀ i, wr.frozen? ⟨g, i, none⟩ = false)) (fun x _ => k - (intOf x).toNat)
    case atStart => exact ⟨0, rfl, Nat.zero_le _, HE9, HC9, HRD, HFZ⟩
    case round =>
      obtain ⟨i, rfl, hi, HEr, HBr, HRr, HFr⟩ := hrel
      have y5 := HBr.out.cell 5
      by_cases hc : i < k
      · have hg := List.getElem?_eq_getElem (l := spoilI es2 i) (i := i) (by rw [spoilI_len, HLE.out]; exact hc)
        obtain ⟨ad', e1, hb, c0, c1⟩ := HRr.out.getE hg
        injection e1 with e1
        subst e1
        rw [addG] at c0
        have f0 := HFr.out (i * 2)
        have hic : (i : Int) < (k : Int) := by omega
        have HNB := Lib.hid (HBr.out.far (p := ⟨g, i * 2, none⟩) (Ne.symm hne) (.int .i64 0))
        have HNE := Lib.hid (HEr.out.setCell (p := ⟨g, i * 2, none⟩) hge (.int .i64 0))
        have hst := HRr.out.setG (i := i * 2) (by omega) (.int .i64 0)
        rw [spoilI_succ (by rw [HLE.out]; exact hc)] at hst
        have HNR := Lib.hid hst
        have HNF : Hid (∀ j, (wr.setCell ⟨g, i * 2, none⟩ (.int .i64 0)).frozen? ⟨g, j, none⟩ = false) := Lib.hid fun j => by rw [World.frozen?_setCell]; exact HFr.out j
        clear hg hb c1 hst
        go_wp2_with fail
        go_roundw
        case rel => exact ⟨i + 1, by go_num, by omega, HNE, HNB, HNR, HNF⟩
        case measure => simp [intOf]; omega
      · obtain rfl : k = i := by omega
        have hsp : spoilI es2 k = spoilE es2 := by unfold spoilI; rw [← HLE.out, List.take_length, List.drop_length, List.append_nil]
        have hrr := HRr.out
        rw [hsp] at hrr
        have HRD2 := Lib.hid hrr
        clear hsp hrr HRr HFr HRD HFZ HC9 HE9 x5
        go_upto_region 25 with (fail)
        clear y5
        have z0 := HBr.out.cell 0
        have z1 := HBr.out.cell 1
        have z2 := HBr.out.cell 2
        have z3 := HBr.out.cell 3
        have z4 := HBr.out.cell 4
        have z5 := HBr.out.cell 5
        have z6 := HBr.out.cell 6
        have yd : wr.cell? ⟨db, 1, none⟩ = some (.pointer (some ⟨mb, 0, none⟩)) := (H1.out.ext HEr.out).bk.cell 1
        go_wp2_with fail
        go_region_with (first
          | (go_at_call 38; refine (HH2.out _ (HEr.out.trans ?_) (some ⟨g, 0, none⟩) k cap none 0 0 (HRD2.out.ext ?_) (HCM.out) (Rd.nil _ _ _ _) (Nat.zero_le _)).mono ?_; (focus ((repeat (with_reducible first | exact Ext.refl _ | assumption | refine Ext.drew ?_ | refine Ext.drewN ?_ _ | refine Ext.alloc ?_ _ | refine Ext.trans ?_ (by with_reducible assumption))); done)); (focus ((repeat (with_reducible first | exact Ext.refl _ | assumption | refine Ext.drew ?_ | refine Ext.drewN ?_ _ | refine Ext.alloc ?_ _ | refine Ext.trans ?_ (by with_reducible assumption))); done)); rintro _ w5 ⟨rfl, hop⟩; have HOP := Lib.hid hop; clear hop)
          | fail)
        all_goals
          go_wp2_with fail
          go_ret
          rw [HF.out]
          exact ⟨rfl, HOP.out.ext (by (repeat (with_reducible first | exact Ext.refl _ | assumption | refine Ext.drew ?_ | refine Ext.drewN ?_ _ | refine Ext.alloc ?_ _ | refine Ext.trans ?_ (by with_reducible assumption))))⟩
end Go.Proofs.YtnphbkjkeipmmaaGreatDoor
