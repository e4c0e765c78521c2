/- the references' desk: a step, proofs. -/
import Derived.Test.YtnphbkjkeipmmaaGreatDoorJRunAnswers6
namespace Go.Proofs.YtnphbkjkeipmmaaGreatDoor
open Go.RowKit Go.WideShapes
set_option linter.unusedVariables false
attribute [local go_sem ↓] Go.wp_at_zero Go.wp_at_succ

set_option maxRecDepth 100000 in
set_option maxHeartbeats 8000000 in
theorem RStep_3 (S : Nat → Prop) (db mb : Nat) (ve va vw : Value) (d : Dk) (bad : Bool) (o t : Nat) (w : World) (h : DAt 33 31 w db ve mb va vw d) (h2 : ∀ g, DFoot db ve mb va vw g → S g) (hS : ∀ g, w.heap.size ≤ g → S g) (hw : d.m.want = ⟨3, (o : Int), (t : Int)⟩) (ho : 1 ≤ o) (hot : o < t) (ht : t ≤ d.es.length) :
    Calls Tryz.prog 18 #[.pointer (some ⟨db, 0, none⟩), .bool bad] w (RSt S db d bad w) := by
  have hgd := stepD_good h.good bad
  rw [stepD_ok h.good] at hgd
  dsimp only at hgd
  have hsr := sent_3 h.good hw bad
  unfold RSt
  have HHR := Lib.hid fun W (e : Ext w W) A n c A' n' c' hr hm hr' hm' => hear_R (S := S) h h2 hS e (sentR d bad) (A := A) (n := n) (c := c) (A' := A') (n' := n') (c' := c') hr hm hr' hm' hgd
  have HMW : Hid (∀ W, Ext w W → Calls Tryz.prog 17 #[.pointer (some ⟨mb, 0, none⟩)] W fun e w' => e = .returned d.m.want.val ∧ Ext W w') := Lib.hid fun W e => RMWant_any mb va vw d.m W (h.ext e).mir
  rw [hw] at HMW
  simp only [Wt.val] at HMW
  have HSR := Lib.hid hsr
  obtain ⟨A, c, hva, hc1, hrd, -⟩ := own_rd h.own
  have H1 := Lib.hid h
  have hl := h.good.es.1
  have hke : entsOk (d.es.take t) := ⟨by rw [List.length_take]; omega, fun e he => h.good.es.2 e (List.mem_of_mem_take he)⟩
  have hlf := leafs_of_ents h.good.es
  have hlen : (d.es.map Ent.leaf).length = d.es.length := List.length_map ..
  have hgk : gmK (d.es.map Ent.leaf) o t = 0 := gmK_ok hlf ⟨by omega, by omega, by rw [hlen]; omega⟩
  have hgv : gmV (d.es.map Ent.leaf) o t = growL ((d.es.map Ent.leaf).take t) o true := by unfold gmV; rw [if_pos hgk, Int.toNat_natCast, Int.toNat_natCast]
  obtain ⟨n, hn⟩ : ∃ n, d.es.length = n := ⟨_, rfl⟩
  rw [hn] at hva hrd ht hl hlen
  have hnc := hrd.2.1
  have htc : (t : Int) ≤ (c : Int) := by omega
  have hti : (t : Int) ≤ (n : Int) := by omega
  have hcs : c ≤ 9223372036854775807 := by unfold maxLen at hc1; omega
  have hlt0 : (d.es.take t).length = t := by rw [List.length_take]; omega
  have HLF : Hid (∀ W, Ext w W → Calls Tryz.prog 37 #[.slice A t c] W fun e w' => (∃ A2 c2, e = .returned (.slice A2 t c2) ∧ c2 ≤ maxLen ∧ Rd w' 1 A2 t c2 (((d.es.map Ent.leaf).take t).map (Value.int .i64))) ∧ Ext W w') := Lib.hid fun W e => by
    refine (REntryLeafs_ok A t c (d.es.take t) W (RdE_tk (hrd.ext e) ht) hc1 hke).mono fun e' w' hh => ?_
    obtain ⟨⟨v, q1, q2⟩, q3⟩ := hh
    obtain ⟨A2, c2, rfl, q4, q5⟩ := q2.rd
    rw [List.length_map, hlt0] at q1 q5
    rw [List.map_take] at q5
    exact ⟨⟨A2, c2, q1, q4, q5⟩, q3⟩
  have hvt : allV ((d.es.map Ent.leaf).take t) = true := allV_take hlf.2 _
  have HGR : Hid (∀ W A2 c2, Rd W 1 A2 t c2 (((d.es.map Ent.leaf).take t).map (Value.int .i64)) → c2 ≤ maxLen → Calls Tryz.prog 36 #[.slice A2 t c2, .int .i64 o, .bool true] W fun e w' => (∃ v, e = .returned v ∧ OwnI W w' v (gmV (d.es.map Ent.leaf) o t)) ∧ Ext W w') := Lib.hid fun W A2 c2 h1 h2 => by
    rw [hgv]
    exact RGrow_any t A2 t c2 _ o true W (Nat.le_refl _) h1 h2 ho (by omega) (by omega) hvt
  have HVA := Lib.hid hva
  have HRDE := Lib.hid hrd
  obtain ⟨pf, hpf⟩ : ∃ x, gmV (d.es.map Ent.leaf) o t = x := ⟨_, rfl⟩
  rw [hpf] at HGR HSR
  clear hva hrd hn h h2 hS hgd hsr hw hpf hke hlf hlen hgk hgv hlt0 hvt
  go_enter Tryz.func18, Tryz.ntmps18
  have y1 : w.cell? ⟨db, 1, none⟩ = some (.pointer (some ⟨mb, 0, none⟩)) := H1.out.bk.cell 1
  go_wp2_with fail
  refine (HMW.out _ (Ext.refl _)).mono ?_
  rintro _ w1 ⟨rfl, hb1⟩
  have B6 := (Bk.at_ w1 60 #[.int .i64 3, .int .i64 o, .int .i64 t] w1.heap.size rfl).alloc (.cells #[.int .i64 3, .int .i64 0, .int .i64 0, .int .i64 0, .int .i64 0, .slice none 0 0, .slice none 0 0] 87)
  have B9 := Bk.at_ (w1.alloc (.cells #[.int .i64 3, .int .i64 o, .int .i64 t] 60)) 87 #[.int .i64 3, .int .i64 0, .int .i64 0, .int .i64 0, .int .i64 0, .slice none 0 0, .slice none 0 0] (w1.heap.size + 1) (by simp)
  have e0 : Ext w ((w1.alloc (.cells #[.int .i64 3, .int .i64 o, .int .i64 t] 60)).alloc (.cells #[.int .i64 3, .int .i64 0, .int .i64 0, .int .i64 0, .int .i64 0, .slice none 0 0, .slice none 0 0] 87)) := (hb1.alloc _).alloc _
  have hg0 : w.heap.size ≤ w1.heap.size := hb1.size
  go_upto_region 20 with (fail)
  generalize ((w1.alloc (.cells #[.int .i64 3, .int .i64 o, .int .i64 t] 60)).alloc (.cells #[.int .i64 3, .int .i64 0, .int .i64 0, .int .i64 0, .int .i64 0, .slice none 0 0, .slice none 0 0] 87)) = W0 at *
  generalize w1.heap.size = g0 at *
  have HG := Lib.hid hg0
  have HE0 := Lib.hid e0
  have HB6 := Lib.hid B6
  have HB9 := Lib.hid B9
  clear hg0 e0 B6 B9 hb1 y1 HMW
  have b0 : W0.cell? ⟨db, 0, none⟩ = some (.slice A n c) := by rw [← HVA.out]; exact (H1.out.ext HE0.out).bk.cell 0
  have u1 : W0.cell? ⟨g0, 1, none⟩ = some (.int .i64 o) := HB6.out.cell 1
  have u2 : W0.cell? ⟨g0, 2, none⟩ = some (.int .i64 t) := HB6.out.cell 2
  go_cut [] (fun wd => ∃ A3 n3 c3, Hid (wd.ownsRow w.heap.size 3 1 (.slice A3 n3 c3) n3 (pf.map (Value.int .i64))) ∧ Hid (Bk wd (g0 + 1) 87 #[.int .i64 3, .int .i64 0, .int .i64 0, .int .i64 0, .int .i64 0, .slice none 0 0, .slice A3 n3 c3]) ∧ Hid (Ext w wd))
  case first =>
    as_aux_lemma =>
    go_region_with (first
      | (go_at_call 37; refine (HLF.out _ (HE0.out.trans ?_)).mono ?_; (focus ((repeat (with_reducible first | exact Ext.refl _ | assumption | refine Ext.drew ?_ | refine Ext.drewN ?_ _ | refine Ext.alloc ?_ _ | refine Ext.trans ?_ (by with_reducible assumption))); done)); rintro _ w4 ⟨⟨A4, c4, rfl, hc4, R4⟩, hb4⟩; have HC4 := Lib.hid hc4; have HR4 := Lib.hid R4; clear hc4 R4; have e4 : Ext W0 w4 := Ext.trans (by (repeat (with_reducible first | exact Ext.refl _ | assumption | refine Ext.drew ?_ | refine Ext.drewN ?_ _ | refine Ext.alloc ?_ _ | refine Ext.trans ?_ (by with_reducible assumption)))) hb4; have f14 : w4.cell? ⟨g0, 1, none⟩ = some (.int .i64 o) := (HB6.out.ext e4).cell 1)
      | (go_at_call 36; refine (HGR.out _ _ _ (HR4.out.ext ?_) HC4.out).mono ?_; (focus ((repeat (with_reducible first | exact Ext.refl _ | assumption | refine Ext.drew ?_ | refine Ext.drewN ?_ _ | refine Ext.alloc ?_ _ | refine Ext.trans ?_ (by with_reducible assumption))); done)); rintro _ w5 ⟨⟨v5, rfl, own5⟩, hb5⟩; obtain ⟨A3, c3, rfl, -, -, -⟩ := own_rd own5; have e5 : Ext W0 w5 := Ext.trans (by (repeat (with_reducible first | exact Ext.refl _ | assumption | refine Ext.drew ?_ | refine Ext.drewN ?_ _ | refine Ext.alloc ?_ _ | refine Ext.trans ?_ (by with_reducible assumption)))) hb5; have B5 := HB9.out.ext e5; have x6 := B5.cell 6; have q6 := B5.frozen 6; have OW := Lib.hid (own_lower own5 (show w.heap.size ≤ _ from Nat.le_trans HE0.out.size (Below.size (show Ext W0 _ from by (repeat (with_reducible first | exact Ext.refl _ | assumption | refine Ext.drew ?_ | refine Ext.drewN ?_ _ | refine Ext.alloc ?_ _ | refine Ext.trans ?_ (by with_reducible assumption))))))))
      | fail)
    all_goals
      have K9 := Lib.hid (B5.set_ 6 (.slice A3 pf.length c3))
      have KE := Lib.hid ((HE0.out.trans e5).setCell (p := ⟨g0 + 1, 6, none⟩) (by have := HG.out; show _ ≤ g0 + 1; omega) (.slice A3 pf.length c3))
      have KO := Lib.hid (OW.out.kept (gb_set w5 (g0 + 1) 6 (.slice A3 pf.length c3)) (.inr (own_type OW.out B5 (by decide))))
      go_wp2_with fail
      go_meet
      exact ⟨A3, pf.length, c3, KO, K9, KE⟩
  case rest =>
  as_aux_lemma =>
  obtain ⟨A3, n3, c3, HKO, HC9, HE9⟩ := hcut
  obtain ⟨W3, hW3⟩ : ∃ W, W = wc := ⟨_, rfl⟩
  subst hW3
  obtain ⟨hcm3, hrd3⟩ := own_A HKO.out
  have hx3 := hrd3.lenI
  have hnc3 := hrd3.2.1
  have hcs3 : c3 ≤ 9223372036854775807 := by unfold maxLen at hcm3; omega
  have x6 := HC9.out.cell 6
  have f6 := HC9.out.frozen 6
  clear b0 u1 u2
  cases bad with
  | false =>
    have HF : Hid (sentR d false = ⟨3, hd00, [], pf⟩) := Lib.hid (HSR.out.trans rfl)
    have hh2 := HHR.out
    rw [HF.out] at hh2
    dsimp only at hh2
    have HH2 := Lib.hid hh2
    clear hh2
    have HRD := Lib.hid hrd3
    have HCM := Lib.hid hcm3
    go_upto_region 25 with (fail)
    clear x6 f6
    have z0 := HC9.out.cell 0
    have z1 := HC9.out.cell 1
    have z2 := HC9.out.cell 2
    have z3 := HC9.out.cell 3
    have z4 := HC9.out.cell 4
    have z5 := HC9.out.cell 5
    have z6 := HC9.out.cell 6
    have yd : W3.cell? ⟨db, 1, none⟩ = some (.pointer (some ⟨mb, 0, none⟩)) := (H1.out.ext HE9.out).bk.cell 1
    go_wp2_with fail
    go_region_with (first
      | (go_at_call 38; refine (HH2.out _ (HE9.out.trans ?_) none 0 0 A3 n3 c3 (Rd.nil _ _ _ _) (Nat.zero_le _) (HRD.out.ext ?_) (HCM.out)).mono ?_; (focus ((repeat (with_reducible first | exact Ext.refl _ | assumption | refine Ext.drew ?_ | refine Ext.drewN ?_ _ | refine Ext.alloc ?_ _ | refine Ext.trans ?_ (by with_reducible assumption))); done)); (focus ((repeat (with_reducible first | exact Ext.refl _ | assumption | refine Ext.drew ?_ | refine Ext.drewN ?_ _ | refine Ext.alloc ?_ _ | refine Ext.trans ?_ (by with_reducible assumption))); done)); rintro _ w5 ⟨rfl, hop⟩; have HOP := Lib.hid hop; clear hop)
      | fail)
    all_goals
      go_wp2_with fail
      go_ret
      rw [HF.out]
      exact ⟨rfl, HOP.out.ext (by (repeat (with_reducible first | exact Ext.refl _ | assumption | refine Ext.drew ?_ | refine Ext.drewN ?_ _ | refine Ext.alloc ?_ _ | refine Ext.trans ?_ (by with_reducible assumption))))⟩
  | true =>
    have HF : Hid (sentR d true = ⟨3, hd00, [], spoilP pf⟩) := Lib.hid (HSR.out.trans rfl)
    have hh2 := HHR.out
    rw [HF.out] at hh2
    dsimp only at hh2
    have HH2 := Lib.hid hh2
    clear hh2
    cases pf with
    | nil =>
      obtain rfl : n3 = 0 := by rw [← hx3]; rfl
      have hrb := HC9.out.lt
      have x6a : (W3.alloc (.cells #[.int .i64 0] 3)).cell? ⟨g0 + 1, 6, none⟩ = some (.slice A3 0 c3) := (HC9.out.alloc _).cell 6
      have q6a := (HC9.out.alloc (.cells #[.int .i64 0] 3)).frozen 6
      have HC1 := Lib.hid ((HC9.out.set_ 6 (.slice (some ⟨W3.heap.size, 0, none⟩) 1 1)).alloc (.cells #[.int .i64 0] 3))
      have HB2 := Lib.hid (Bk.at_ (W3.setCell ⟨g0 + 1, 6, none⟩ (.slice (some ⟨W3.heap.size, 0, none⟩) 1 1)) 3 #[.int .i64 0] W3.heap.size (by simp))
      have HE1 := Lib.hid ((HE9.out.setCell (p := ⟨g0 + 1, 6, none⟩) (by have := HG.out; show _ ≤ g0 + 1; omega) (.slice (some ⟨W3.heap.size, 0, none⟩) 1 1)).alloc (.cells #[.int .i64 0] 3))
      have HRD : Hid (Rd ((W3.setCell ⟨g0 + 1, 6, none⟩ (.slice (some ⟨W3.heap.size, 0, none⟩) 1 1)).alloc (.cells #[.int .i64 0] 3)) 1 (some ⟨W3.heap.size, 0, none⟩) 1 1 ((spoilP []).map (Value.int .i64))) := Lib.hid ⟨rfl, Nat.le_refl _, fun _ => ⟨_, rfl, HB2.out.lt, fun j u hu => by
        match j, hu with
        | 0, hu =>
          simp [spoilP] at hu
          subst hu
          rw [addG]
          exact HB2.out.cell 0⟩⟩
      go_upto_region 25 with (fail)
      generalize (W3.setCell ⟨g0 + 1, 6, none⟩ (.slice (some ⟨W3.heap.size, 0, none⟩) 1 1)).alloc (.cells #[.int .i64 0] 3) = W4 at *
      generalize W3.heap.size = g3 at *
      clear x6 f6 x6a q6a
      have z0 := HC1.out.cell 0
      have z1 := HC1.out.cell 1
      have z2 := HC1.out.cell 2
      have z3 := HC1.out.cell 3
      have z4 := HC1.out.cell 4
      have z5 := HC1.out.cell 5
      have z6 := HC1.out.cell 6
      have yd : W4.cell? ⟨db, 1, none⟩ = some (.pointer (some ⟨mb, 0, none⟩)) := (H1.out.ext HE1.out).bk.cell 1
      go_wp2_with fail
      go_region_with (first
        | (go_at_call 38; refine (HH2.out _ (HE1.out.trans ?_) none 0 0 (some ⟨g3, 0, none⟩) 1 1 (Rd.nil _ _ _ _) (Nat.zero_le _) (HRD.out.ext ?_) (by unfold maxLen; omega)).mono ?_; (focus ((repeat (with_reducible first | exact Ext.refl _ | assumption | refine Ext.drew ?_ | refine Ext.drewN ?_ _ | refine Ext.alloc ?_ _ | refine Ext.trans ?_ (by with_reducible assumption))); done)); (focus ((repeat (with_reducible first | exact Ext.refl _ | assumption | refine Ext.drew ?_ | refine Ext.drewN ?_ _ | refine Ext.alloc ?_ _ | refine Ext.trans ?_ (by with_reducible assumption))); done)); rintro _ w5 ⟨rfl, hop⟩; have HOP := Lib.hid hop; clear hop)
        | fail)
      all_goals
        go_wp2_with fail
        go_ret
        rw [HF.out]
        exact ⟨rfl, HOP.out.ext (by (repeat (with_reducible first | exact Ext.refl _ | assumption | refine Ext.drew ?_ | refine Ext.drewN ?_ _ | refine Ext.alloc ?_ _ | refine Ext.trans ?_ (by with_reducible assumption))))⟩
    | cons z pf =>
      have hn0 : 0 < n3 := by rw [← hx3]; simp
      obtain ⟨ga, rfl⟩ : ∃ ga, A3 = some ⟨ga, 0, none⟩ := by
        rcases own_form HKO.out with h | h
        · obtain ⟨ad3, h2, _⟩ := hrd3.2.2 hn0
          rw [h] at h2; cases h2
        · exact h
      have hge : w.heap.size ≤ ga := own_block HKO.out ga rfl
      have hne : ga ≠ g0 + 1 := fun e => own_type HKO.out HC9.out (by decide) (by rw [e]; rfl)
      have f0 := own_frozenG HKO.out 0
      have z0 : W3.cell? ⟨ga, 0, none⟩ = some (.int .i64 z) := by
        obtain ⟨ad, e, _, hh⟩ := hrd3.2.2 hn0
        injection e with e
        subst e
        have := hh 0 _ rfl
        rwa [addG] at this
      have hn0b : ((n3 : Int) == 0) = false := beq_eq_false_iff_ne.2 (by omega)
      have hnp : (0 : Int) < (n3 : Int) := by omega
      have HC1 := Lib.hid (HC9.out.far (p := ⟨ga, 0, none⟩) (Ne.symm hne) (.int .i64 0))
      have HE1 := Lib.hid (HE9.out.setCell (p := ⟨ga, 0, none⟩) hge (.int .i64 0))
      have HRD : Hid (Rd (W3.setCell ⟨ga, 0, none⟩ (.int .i64 0)) 1 (some ⟨ga, 0, none⟩) n3 c3 ((spoilP (z :: pf)).map (Value.int .i64))) := Lib.hid (hrd3.setG (i := 0) (by omega) _)
      have HCM := Lib.hid hcm3
      clear HKO hrd3 hx3 hcm3
      go_upto_region 25 with (fail)
      generalize W3.setCell ⟨ga, 0, none⟩ (.int .i64 0) = W4 at *
      clear x6 f6 z0 f0
      have z0 := HC1.out.cell 0
      have z1 := HC1.out.cell 1
      have z2 := HC1.out.cell 2
      have z3 := HC1.out.cell 3
      have z4 := HC1.out.cell 4
      have z5 := HC1.out.cell 5
      have z6 := HC1.out.cell 6
      have yd : W4.cell? ⟨db, 1, none⟩ = some (.pointer (some ⟨mb, 0, none⟩)) := (H1.out.ext HE1.out).bk.cell 1
      go_wp2_with fail
      go_region_with (first
        | (go_at_call 38; refine (HH2.out _ (HE1.out.trans ?_) none 0 0 (some ⟨ga, 0, none⟩) n3 c3 (Rd.nil _ _ _ _) (Nat.zero_le _) (HRD.out.ext ?_) (HCM.out)).mono ?_; (focus ((repeat (with_reducible first | exact Ext.refl _ | assumption | refine Ext.drew ?_ | refine Ext.drewN ?_ _ | refine Ext.alloc ?_ _ | refine Ext.trans ?_ (by with_reducible assumption))); done)); (focus ((repeat (with_reducible first | exact Ext.refl _ | assumption | refine Ext.drew ?_ | refine Ext.drewN ?_ _ | refine Ext.alloc ?_ _ | refine Ext.trans ?_ (by with_reducible assumption))); done)); rintro _ w5 ⟨rfl, hop⟩; have HOP := Lib.hid hop; clear hop)
        | fail)
      all_goals
        go_wp2_with fail
        go_ret
        rw [HF.out]
        exact ⟨rfl, HOP.out.ext (by (repeat (with_reducible first | exact Ext.refl _ | assumption | refine Ext.drew ?_ | refine Ext.drewN ?_ _ | refine Ext.alloc ?_ _ | refine Ext.trans ?_ (by with_reducible assumption))))⟩
end Go.Proofs.YtnphbkjkeipmmaaGreatDoor
