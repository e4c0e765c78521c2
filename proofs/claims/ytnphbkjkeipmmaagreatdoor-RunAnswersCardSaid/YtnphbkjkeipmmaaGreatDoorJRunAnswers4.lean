/- The references' mirror in memory: settle, Hear. -/
import Derived.Test.YtnphbkjkeipmmaaGreatDoorJRunAnswers3
namespace Go.Proofs.YtnphbkjkeipmmaaGreatDoor
open Go.RowKit Go.WideShapes
set_option linter.unusedVariables false
attribute [local go_sem ↓] Go.wp_at_zero Go.wp_at_succ

set_option maxRecDepth 100000 in
set_option maxHeartbeats 2000000 in
theorem rsettle_any (P : Nat → Prop) (mb : Nat) (va vw : Value) (m : Mi) (w : World) (h : MiAt 31 w mb va vw m) (hP : ∀ g, MFoot mb va vw g → P g) (hPn : ∀ g, w.heap.size ≤ g → P g) (hn : m.next.size ≠ 0) (hf : m.have_ = m.next.size) :
    Calls Tryz.prog 67 #[.pointer (some ⟨mb, 0, none⟩)] w (RPost w P mb m.settle) := by
  have hgd := h.good
  have HG0 := Lib.hid (hgd.settle hn hf)
  have hall := hgd.all
  obtain ⟨n, hnl⟩ : ∃ n, m.own.length = n := ⟨_, rfl⟩
  obtain ⟨k, hkl⟩ : ∃ n, m.waits.length = n := ⟨_, rfl⟩
  have hle := hgd.have_le
  have hlen : (m.own ++ m.waits).length = n + k := by rw [List.length_append, hnl, hkl]
  have HLF := Lib.hid fun A c => (RLeafRoot A (n + k) c (m.own ++ m.waits) hall).1
  have HRT := Lib.hid (RLeafRoot none (n + k) 0 (m.own ++ m.waits) hall).2
  obtain ⟨ro, hro⟩ : ∃ v, rootE (m.own ++ m.waits) = v := ⟨_, rfl⟩
  obtain ⟨nr, hnr⟩ : ∃ v, m.next.root = v := ⟨_, rfl⟩
  have R1 : Hid (ro ≠ nr → m.settle = (m.forget, 8)) := Lib.hid fun e => by unfold Mi.settle; rw [hro, hnr, if_pos e]
  have R2 : Hid (ro = nr → m.settle = (⟨m.key, m.own ++ m.waits, m.next, hd00, []⟩, 0)) := Lib.hid fun e => by unfold Mi.settle; rw [hro, hnr, if_neg (not_not_intro e)]
  have ow := h.own
  have wa := h.waits
  rw [hnl] at ow
  rw [hkl] at wa
  rw [hnl, hkl] at hle
  rw [hro] at HRT
  obtain ⟨A, c, rfl, hc, hr, hnA⟩ := own_rd ow
  obtain ⟨A', c', rfl, hc', hr', hnA'⟩ := own_rd wa
  have hA : A = none → n = 0 ∧ c = 0 := fun e => by
    have h0 : n = 0 := by
      rcases Nat.eq_zero_or_pos n with h | h
      · exact h
      · obtain ⟨ad, h1, _⟩ := hr.2.2 h; rw [e] at h1; cases h1
    rcases hnA h0 with h1 | h1
    · exact ⟨h0, h1.2⟩
    · exact absurd e h1
  have hA' : A' = none → k = 0 ∧ c' = 0 := fun e => by
    have h0 : k = 0 := by
      rcases Nat.eq_zero_or_pos k with h | h
      · exact h
      · obtain ⟨ad, h1, _⟩ := hr'.2.2 h; rw [e] at h1; cases h1
    rcases hnA' h0 with h1 | h1
    · exact ⟨h0, h1.2⟩
    · exact absurd e h1
  have HF8 : Hid (∀ W, Ext w W → Calls Tryz.prog 66 #[.pointer (some ⟨mb, 0, none⟩)] W fun e w' => (∃ v, e = .returned v) ∧ MM 31 w' P mb m.forget ∧ Chg W w' P) := Lib.hid fun W e => rforget_any P mb _ _ m W (h.ext e) hP
  have HH := Lib.hid h
  have HP := Lib.hid hP
  have HPN := Lib.hid hPn
  have HLEN := Lib.hid hlen
  have HNR := Lib.hid hnr
  have HRA := Lib.hid hr
  have HRB := Lib.hid hr'
  have HA := Lib.hid hA
  have HA' := Lib.hid hA'
  have y1 : w.cell? ⟨mb, 1, none⟩ = some (.slice A n c) := h.bk.cell 1
  obtain ⟨i0, hi0, hz0, hz1, hz2⟩ := info_parts info_entM
  have HN0 := Lib.hid (own_nil w w.heap.size 67 2)
  clear hgd hall hnl hkl hro hnr ow wa hr hr' hnA hnA' hA hA' h hP hPn hn hf hlen
  go_enter Tryz.func67, Tryz.ntmps67
  go_upto_region 3 with (at_builtin; refine wpl_appR (by rfl) _ _ _ (by rfl) w.heap.size 67 i0 _ 2 24 Tryz.underlying27 hi0 hz0 hz1 hz2 rfl (by omega) (.slice none 0 0) 0 _ (by rfl) HN0.out A n c _ (by rfl) HRA.out HA.out (ones_ents _) (by omega) (by omega) (Nat.le_refl _) ?_; intro v1 w1 own1 hg1 hn1)
  have E1 : Ext w w1 := own_grown HN0.out hg1 w (Nat.le_refl _) (Ext.refl _)
  rw [Nat.zero_add, List.nil_append] at own1
  have HE1 := Lib.hid E1
  have HO1 := Lib.hid own1
  have HH1 := Lib.hid (HH.out.ext E1)
  have HRB1 := Lib.hid (HRB.out.ext E1)
  have y10 : w1.cell? ⟨mb, 10, none⟩ = some (.slice A' k c') := HH1.out.bk.cell 10
  have hsz1 := E1.size
  clear E1 own1 hg1 hn1 y1 HRA HA HN0
  go_upto_region 4 with (at_builtin; refine wpl_appR (by rfl) _ _ _ (by rfl) w.heap.size 67 i0 _ 2 24 Tryz.underlying27 hi0 hz0 hz1 hz2 rfl (by omega) v1 n _ (by rfl) HO1.out A' k c' _ (by rfl) HRB1.out HA'.out (ones_ents _) (by omega) (by omega) hsz1 ?_; intro v2 w2 own2 hg2 hn2)
  have E2 : Ext w w2 := own_grown HO1.out hg2 w (Nat.le_refl _) HE1.out
  rw [← List.flatMap_append] at own2
  obtain ⟨nk, hnk⟩ : ∃ x, n + k = x := ⟨_, rfl⟩
  rw [hnk] at own2 HRT HLF HLEN hle
  obtain ⟨B2, c2, rfl, hc2, hr2, -⟩ := own_rd own2
  have HR2 := Lib.hid hr2
  have HO2 := Lib.hid own2
  have HE2 := Lib.hid E2
  have HH2 := Lib.hid (HH.out.ext E2)
  have z7 : ∀ x : WE w2, x.W.cell? ⟨mb, 7, none⟩ = some (.int .i64 nr) := fun x => by
    have := (HH2.out.ext x.h).bk.cell 7
    rw [← HNR.out]; exact this
  have z7a : w2.cell? ⟨mb, 7, none⟩ = some (.int .i64 nr) := z7 ⟨w2, Ext.refl _⟩
  clear y10 hr2 own2 hg2 hn2 E2 HO1 HH1 HRB1 HA' HE1 hsz1
  by_cases hq : ro = nr
  · have HR := Lib.hid (R2.out hq)
    subst hq
    clear R1 R2 HF8
    go_cut [24] (fun b wc => b = .bool false ∧ Ext w2 wc)
    case first =>
      as_aux_lemma =>
      go_region_with (first
        | (go_at_call 37; refine (HLF.out B2 c2 _ (HR2.out.ext ?_) hc2).mono ?_; (focus ((repeat (with_reducible first | exact Ext.refl _ | assumption | refine Ext.drew ?_ | refine Ext.drewN ?_ _ | refine Ext.alloc ?_ _ | refine Ext.trans ?_ (by with_reducible assumption))); done)); rintro _ w4 ⟨⟨A4, c4, rfl, hc4, R4⟩, hb4⟩; have HC4 := Lib.hid hc4; have HR4 := Lib.hid R4; clear hc4 R4; have z8 : w4.cell? ⟨mb, 7, none⟩ = some (.int .i64 ro) := z7 ⟨w4, Ext.trans (by (repeat (with_reducible first | exact Ext.refl _ | assumption | refine Ext.drew ?_ | refine Ext.drewN ?_ _ | refine Ext.alloc ?_ _ | refine Ext.trans ?_ (by with_reducible assumption)))) hb4⟩)
        | (go_at_call 39; refine (HRT.out _ _ _ (HR4.out.ext ?_) HC4.out).mono ?_; (focus ((repeat (with_reducible first | exact Ext.refl _ | assumption | refine Ext.drew ?_ | refine Ext.drewN ?_ _ | refine Ext.alloc ?_ _ | refine Ext.trans ?_ (by with_reducible assumption))); done)); rintro _ w5 ⟨rfl, hb5⟩; have z9 : w5.cell? ⟨mb, 7, none⟩ = some (.int .i64 ro) := z7 ⟨w5, Ext.trans (by (repeat (with_reducible first | exact Ext.refl _ | assumption | refine Ext.drew ?_ | refine Ext.drewN ?_ _ | refine Ext.alloc ?_ _ | refine Ext.trans ?_ (by with_reducible assumption)))) hb5⟩)
        | fail)
      all_goals
        go_wp2_with fail
        go_meet
        exact ⟨rfl, by (repeat (with_reducible first | exact Ext.refl _ | assumption | refine Ext.drew ?_ | refine Ext.drewN ?_ _ | refine Ext.alloc ?_ _ | refine Ext.trans ?_ (by with_reducible assumption)))⟩
    case rest =>
    as_aux_lemma =>
    obtain ⟨rfl, hb3⟩ := hcut
    obtain ⟨w3, rfl⟩ : ∃ W, W = wc := ⟨_, rfl⟩
    have HE3 := Lib.hid (HE2.out.trans hb3)
    have H3 := HH2.out.ext hb3
    have HH3 := Lib.hid H3
    have HO3 := Lib.hid (own_ext HO2.out hb3)
    clear z7 z7a HR2 HH2 HO2 hb3 HE2
    have hg := HG0.out
    rw [HR.out] at hg
    have HG := Lib.hid hg
    obtain ⟨n0, hn0⟩ : ∃ v, m.next.size = v := ⟨_, rfl⟩
    obtain ⟨n2, hn2⟩ : ∃ v, m.next.time = v := ⟨_, rfl⟩
    obtain ⟨n3, hn3⟩ : ∃ v, m.next.sign = v := ⟨_, rfl⟩
    obtain ⟨m0, hm0⟩ : ∃ v, m.head.size = v := ⟨_, rfl⟩
    obtain ⟨m1, hm1⟩ : ∃ v, m.head.root = v := ⟨_, rfl⟩
    obtain ⟨m2, hm2⟩ : ∃ v, m.head.time = v := ⟨_, rfl⟩
    obtain ⟨m3, hm3⟩ : ∃ v, m.head.sign = v := ⟨_, rfl⟩
    have hnx : m.next = ⟨n0, ro, n2, n3⟩ := by rw [← hn0, ← HNR.out, ← hn2, ← hn3]
    have y1 : w3.cell? ⟨mb, 1, none⟩ = some (.slice A n c) := H3.bk.cell 1
    have y2 : w3.cell? ⟨mb, 2, none⟩ = some (.int .i64 m0) := by rw [← hm0]; exact H3.bk.cell 2
    have y3 : w3.cell? ⟨mb, 3, none⟩ = some (.int .i64 m1) := by rw [← hm1]; exact H3.bk.cell 3
    have y4 : w3.cell? ⟨mb, 4, none⟩ = some (.int .i64 m2) := by rw [← hm2]; exact H3.bk.cell 4
    have y5 : w3.cell? ⟨mb, 5, none⟩ = some (.int .i64 m3) := by rw [← hm3]; exact H3.bk.cell 5
    have y6 : w3.cell? ⟨mb, 6, none⟩ = some (.int .i64 n0) := by rw [← hn0]; exact H3.bk.cell 6
    have y7 : w3.cell? ⟨mb, 7, none⟩ = some (.int .i64 ro) := by rw [← HNR.out]; exact H3.bk.cell 7
    have y8 : w3.cell? ⟨mb, 8, none⟩ = some (.int .i64 n2) := by rw [← hn2]; exact H3.bk.cell 8
    have y9 : w3.cell? ⟨mb, 9, none⟩ = some (.int .i64 n3) := by rw [← hn3]; exact H3.bk.cell 9
    have q1 := H3.bk.frozen 1
    have q2 := H3.bk.frozen 2
    have q3 := H3.bk.frozen 3
    have q4 := H3.bk.frozen 4
    have q5 := H3.bk.frozen 5
    have HNX := Lib.hid hnx
    have S := (((((H3.bk.set_ 1 (.slice B2 nk c2)).set_ 2 (.int .i64 n0)).set_ 3 (.int .i64 ro)).set_ 4 (.int .i64 n2)).set_ 5 (.int .i64 n3))
    have S' : Bk (((((w3.setCell ⟨mb, 1, none⟩ (.slice B2 nk c2)).setCell ⟨mb, 2, none⟩ (.int .i64 n0)).setCell ⟨mb, 3, none⟩ (.int .i64 ro)).setCell ⟨mb, 4, none⟩ (.int .i64 n2)).setCell ⟨mb, 5, none⟩ (.int .i64 n3)) mb 31 (mcells m.key (.slice B2 nk c2) ⟨n0, ro, n2, n3⟩ m.next (.slice A' k c')) := S
    have G4 : w3.grownBy (((((w3.setCell ⟨mb, 1, none⟩ (.slice B2 nk c2)).setCell ⟨mb, 2, none⟩ (.int .i64 n0)).setCell ⟨mb, 3, none⟩ (.int .i64 ro)).setCell ⟨mb, 4, none⟩ (.int .i64 n2)).setCell ⟨mb, 5, none⟩ (.int .i64 n3)) (some mb) :=
      gb_trans (gb_trans (gb_trans (gb_trans (gb_set w3 mb 1 _) (gb_set _ mb 2 _)) (gb_set _ mb 3 _)) (gb_set _ mb 4 _)) (gb_set _ mb 5 _)
    have HS := Lib.hid S'
    have HG4 := Lib.hid G4
    clear S S' G4 H3 hn0 hn2 hn3 hm0 hm1 hm2 hm3 hg hnx HG0
    go_wp2_with fail
    refine (rforget_raw mb m.key (.slice B2 nk c2) ⟨n0, ro, n2, n3⟩ m.next (.slice A' k c') _ HS.out).mono ?_
    rintro _ w5 ⟨⟨v5, rfl⟩, hb5, hg5⟩
    have HB5 := Lib.hid hb5
    clear hb5
    go_wp2_with fail
    go_ret
    rw [HR.out]
    obtain ⟨h1, h2⟩ := HH3.out.putR (m' := ⟨m.key, m.own ++ m.waits, m.next, hd00, []⟩) (va' := .slice B2 nk c2) (vw' := .slice none 0 0) HP.out (gb_trans HG4.out hg5) (by rw [HNX.out]; exact HB5.out)
      (by
        have := own_lower HO3.out (Nat.zero_le _)
        show World.ownsRow _ _ _ _ _ (m.own ++ m.waits).length _
        rw [HLEN.out]; exact this) (own_nil _ _ _ _) (fun g _ hg => by simp [Value.ownBlock] at hg) HG.out (fun g hg => HPN.out g (own_block HO3.out g hg)) (fun g hg => by simp [Value.ownBlock] at hg)
    exact ⟨rfl, h1, (HE3.out.chg P).trans h2 fun _ _ h => h⟩
  · have HR := Lib.hid (R1.out hq)
    have hb : (ro == nr) = false := beq_eq_false_iff_ne.2 hq
    clear R1 R2 hq HG0
    go_cut [24] (fun b wc => b = .bool true ∧ Ext w2 wc)
    case first =>
      as_aux_lemma =>
      go_region_with (first
        | (go_at_call 37; refine (HLF.out B2 c2 _ (HR2.out.ext ?_) hc2).mono ?_; (focus ((repeat (with_reducible first | exact Ext.refl _ | assumption | refine Ext.drew ?_ | refine Ext.drewN ?_ _ | refine Ext.alloc ?_ _ | refine Ext.trans ?_ (by with_reducible assumption))); done)); rintro _ w4 ⟨⟨A4, c4, rfl, hc4, R4⟩, hb4⟩; have HC4 := Lib.hid hc4; have HR4 := Lib.hid R4; clear hc4 R4; have z8 : w4.cell? ⟨mb, 7, none⟩ = some (.int .i64 nr) := z7 ⟨w4, Ext.trans (by (repeat (with_reducible first | exact Ext.refl _ | assumption | refine Ext.drew ?_ | refine Ext.drewN ?_ _ | refine Ext.alloc ?_ _ | refine Ext.trans ?_ (by with_reducible assumption)))) hb4⟩)
        | (go_at_call 39; refine (HRT.out _ _ _ (HR4.out.ext ?_) HC4.out).mono ?_; (focus ((repeat (with_reducible first | exact Ext.refl _ | assumption | refine Ext.drew ?_ | refine Ext.drewN ?_ _ | refine Ext.alloc ?_ _ | refine Ext.trans ?_ (by with_reducible assumption))); done)); rintro _ w5 ⟨rfl, hb5⟩; have z9 : w5.cell? ⟨mb, 7, none⟩ = some (.int .i64 nr) := z7 ⟨w5, Ext.trans (by (repeat (with_reducible first | exact Ext.refl _ | assumption | refine Ext.drew ?_ | refine Ext.drewN ?_ _ | refine Ext.alloc ?_ _ | refine Ext.trans ?_ (by with_reducible assumption)))) hb5⟩)
        | fail)
      all_goals
        go_wp2_with fail
        go_meet
        exact ⟨by simp [bne, hb], by (repeat (with_reducible first | exact Ext.refl _ | assumption | refine Ext.drew ?_ | refine Ext.drewN ?_ _ | refine Ext.alloc ?_ _ | refine Ext.trans ?_ (by with_reducible assumption)))⟩
    case rest =>
    as_aux_lemma =>
    obtain ⟨rfl, hb3⟩ := hcut
    obtain ⟨w3, rfl⟩ : ∃ W, W = wc := ⟨_, rfl⟩
    have HE3 := Lib.hid (HE2.out.trans hb3)
    clear z7 z7a HR2 HH2 HO2 hb3 HE2
    go_wp2_with fail
    refine (HF8.out _ HE3.out).mono ?_
    rintro _ w4 ⟨⟨v4, rfl⟩, hp2, hp3⟩
    have HP2 := Lib.hid hp2
    have HP3 := Lib.hid hp3
    clear hp2 hp3
    go_wp2_with fail
    go_ret
    rw [HR.out]
    exact ⟨rfl, HP2.out, (HE3.out.chg P).trans HP3.out fun _ _ h => h⟩
end Go.Proofs.YtnphbkjkeipmmaaGreatDoor
