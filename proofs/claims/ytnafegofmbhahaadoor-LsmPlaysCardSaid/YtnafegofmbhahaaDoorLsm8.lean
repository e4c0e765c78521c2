/- lsm: Flush. -/
import Derived.Test.YtnafegofmbhahaaDoorLsm7
namespace Go.Proofs.YtnafegofmbhahaaDoor
open Go.RowKit Go.WideShapes
set_option linter.unusedVariables false
attribute [local go_sem ↓] Go.wp_at_zero Go.wp_at_succ

set_option maxRecDepth 100000 in
set_option maxHeartbeats 2000000 in
theorem LFlush_any (F : Nat → Prop) (x : Nat) (lim : Int) (Y : List Pr) (T : List (List Pr)) (w : World) (h : LM w F x lim Y T) (htot : totL T ≤ 1000) :
    Calls Tryd.prog 50 #[.pointer (some ⟨x, 0, none⟩)] w fun e w' => e = .returned (errR (flK Y)) ∧ ∃ F', LOp w w' F x lim (flY Y) (flT Y T) F' := by
  obtain ⟨hE, hN, hG⟩ := errR_rules
  have HM := Lib.hid h
  have HMY := Lib.hid h.many
  have HME := Lib.hid (LMerge_any F x lim Y T w h htot)
  have HFL := Lib.hid (flush_many (T := T))
  obtain ⟨sb, sv, lv, ts, hL, hT, -⟩ := h
  obtain ⟨n, hn⟩ : ∃ n, ts.length = n := ⟨_, rfl⟩
  have hTn : T.length = n := by rw [← hT, List.length_map, hn]
  have ow := hL.own
  rw [hn] at ow
  obtain ⟨A, c, rfl, hc, hr, -⟩ := own_rd ow
  have c1 : w.cell? ⟨x, 1, none⟩ = some (.pointer (some ⟨sb, 0, none⟩)) := hL.bk.cell 1
  have c2 : w.cell? ⟨x, 2, none⟩ = some (.slice A n c) := hL.bk.cell 2
  have HTN := Lib.hid hTn
  have HS := Lib.hid (SLen_any 0 sb sv Y w hL.st)
  clear ow hr hL hT hn hTn htot
  obtain ⟨y, hy⟩ : ∃ y, Y.length = y := ⟨_, rfl⟩
  rw [hy] at HS
  have HY := Lib.hid hy
  clear hy
  by_cases hy0 : y = 0
  · subst hy0
    have hk : flK Y = 6 := if_pos HY.out
    rw [hk, flY_nil HY.out, flT_nil HY.out]
    clear hk
    go_enter Tryd.func50, Tryd.ntmps50
    go_wp2_with fail
    refine HS.out.mono ?_
    rintro _ _ ⟨rfl, rfl⟩
    go_wp2_with fail
    go_ret
    exact ⟨rfl, F, HM.out.op (Ext.refl _)⟩
  · have hk : flK Y = 0 := if_neg (by rw [HY.out]; exact hy0)
    have hfl : flT Y T = Y :: flushT T := flT_cons (by rw [HY.out]; exact hy0)
    have hfy : flY Y = [] := rfl
    rw [hk, errR_0, hfl, hfy]
    have hyi : ¬ (y : Int) = 0 := by omega
    clear hk hfl hfy hy0
    go_enter Tryd.func50, Tryd.ntmps50
    go_wp2_with fail
    refine HS.out.mono ?_
    rintro _ _ ⟨rfl, rfl⟩
    clear HS
    go_upto_if 18 with (fail)
    go_cut [2, 3] (fun v u wc => v = .nilIface ∧ ∃ F1, LOp w wc F x lim Y (flushT T) F1)
    case first =>
      as_aux_lemma =>
      by_cases h8 : 8 ≤ n
      · have h8i : (8 : Int) ≤ (n : Int) := by omega
        have hk : mgK T = 0 := if_neg (by rw [HTN.out]; omega)
        have hft : flushT T = mergeT T := if_pos (by rw [HTN.out]; exact h8)
        have HFT := Lib.hid hft
        rw [hk, errR_0] at HME
        clear hk hft
        go_wp2_with fail
        refine HME.out.mono ?_
        rintro _ w1 ⟨rfl, hop⟩
        have HOP := Lib.hid hop
        clear hop
        go_wp2_with fail
        go_meet
        exact ⟨rfl, by rw [HFT.out]; exact HOP.out⟩
      · have h8i : ¬ (8 : Int) ≤ (n : Int) := by omega
        have hft : flushT T = T := if_neg (by rw [HTN.out]; exact h8)
        have HFT := Lib.hid hft
        clear hft
        go_wp2_with fail
        go_meet
        exact ⟨rfl, F, by rw [HFT.out]; exact HM.out.op (Ext.refl _)⟩
    case rest =>
    as_aux_lemma =>
    rename_i v3 wc
    obtain ⟨rfl, F1, hop⟩ := hcut
    obtain ⟨sb1, sv1, lv1, ts1, hL1, hT1, hF1⟩ := id hop.at_
    have HOP := Lib.hid hop
    have HT1 := Lib.hid hT1
    have HF1 := Lib.hid hF1
    have HL1 := Lib.hid hL1
    have x1 : wc.cell? ⟨x, 1, none⟩ = some (.pointer (some ⟨sb1, 0, none⟩)) := hL1.bk.cell 1
    have HA := Lib.hid (SAll_any 0 sb1 sv1 Y wc hL1.st)
    rw [HY.out] at HA
    have hy60 : y ≤ 60 := by rw [← HY.out]; exact hL1.st.len
    have hn7 : ts1.length ≤ 7 := by
      have h1 := HFL.out
      rw [← hT1, List.length_map] at h1
      exact h1
    have HN7 := Lib.hid hn7
    clear hop hT1 hF1 hL1 c1 c2 hn7 HME HMY HFL HM
    go_wp2_with fail
    refine HA.out.mono ?_
    rintro _ w2 ⟨⟨v2, rfl, o2⟩, hb2⟩
    obtain ⟨A2, c2', rfl, hc2, hr2, -⟩ := own_rd o2
    have HB := Lib.hid (built_any A2 y c2' Y w2 hr2 hc2 (by omega) (tblK_zero.2 ⟨HL1.out.st.asc, HL1.out.st.ok⟩))
    clear o2 hr2 HA x1
    go_wp2_with fail
    refine HB.out.mono ?_
    rintro _ w3 ⟨⟨tb, tv, rfl, tb3, htb⟩, hb3⟩
    have HTB := Lib.hid tb3
    obtain ⟨bs, HBS⟩ : ∃ b, Hid (tabB Y = b) := ⟨_, rfl⟩
    rw [HBS.out]
    have B4 := Bk.at_ w3 118 #[.string bs, .pointer (some ⟨tb, 0, none⟩)] w3.heap.size rfl
    have e4 : Ext w3 (w3.alloc (.cells #[.string bs, .pointer (some ⟨tb, 0, none⟩)] 118)) := (Ext.refl _).alloc _
    have z0 : (w3.alloc (.cells #[.string bs, .pointer (some ⟨tb, 0, none⟩)] 118)).cell? ⟨w3.heap.size, 0, none⟩ = some (.string bs) := B4.cell 0
    have z1 : (w3.alloc (.cells #[.string bs, .pointer (some ⟨tb, 0, none⟩)] 118)).cell? ⟨w3.heap.size, 1, none⟩ = some (.pointer (some ⟨tb, 0, none⟩)) := B4.cell 1
    have HT4 := Lib.hid (HTB.out.ext e4)
    have e4w := (hb2.trans hb3).trans e4
    have HL4 := Lib.hid (HL1.out.ext e4w)
    have htv : ∀ g, tv.ownBlock = some g → wc.heap.size ≤ g := fun g hg => by
      have h1 := own_block tb3.own g hg
      have := hb2.size
      omega
    have HTV := Lib.hid htv
    have htb2 : wc.heap.size ≤ tb := by have := hb2.size; omega
    obtain ⟨n1, hn1⟩ : ∃ n, ts1.length = n := ⟨_, rfl⟩
    have HN1 := Lib.hid hn1
    have ow1 := HL4.out.own
    rw [hn1] at ow1
    obtain ⟨A1, c1, rfl, hc1, -, -⟩ := own_rd ow1
    have HOW := Lib.hid ow1
    have x2 : (w3.alloc (.cells #[.string bs, .pointer (some ⟨tb, 0, none⟩)] 118)).cell? ⟨x, 2, none⟩ = some (.slice A1 n1 c1) := HL4.out.bk.cell 2
    have hn18 : n1 ≤ 7 := by rw [← hn1]; exact HN7.out
    have HB4 := Lib.hid B4
    clear tb3 B4 htv htb hn1 ow1
    go_upto_region 10 with (fail)
    generalize w3.alloc (.cells #[.string bs, .pointer (some ⟨tb, 0, none⟩)] 118) = W4 at *
    have hin : ∀ (q : Nat) (W : World), Ext W4 W → Bk W q 118 #[.string bs, .pointer (some ⟨tb, 0, none⟩)] → W4.heap.size ≤ q → Calls Tryd.prog 90 #[.slice A1 n1 c1, .int .i64 0, .slice (some ⟨q, 0, none⟩) 1 1] W fun e w' =>
        ∃ g cap, e = .returned (.slice (some ⟨g, 0, none⟩) (n1 + 1) cap) ∧ w'.ownsRow 0 118 2 (.slice (some ⟨g, 0, none⟩) (n1 + 1) cap) (n1 + 1) (((⟨tb, tv, Y⟩ : Tb) :: ts1).flatMap Tb.cells) ∧ W.grownBy w' (Value.slice A1 n1 c1).ownBlock ∧ ((Value.slice A1 n1 c1).ownBlock = some g ∨ W.heap.size ≤ g) ∧ Bk w' x 116 #[.int .i64 lim, .pointer (some ⟨sb1, 0, none⟩), (.slice A1 n1 c1)] := fun q W hW hBk hq => by
      refine (InsLert_own 0 n1 0 q (.slice A1 n1 c1) (ts1.flatMap Tb.cells) #[.string bs, .pointer (some ⟨tb, 0, none⟩)] W (Nat.zero_le _) (by omega) (Nat.zero_le _) (own_ext HOW.out hW) rfl hBk ?_ ?_ ?_).mono ?_
      · intro e'
        have := (HOW.out.lt _ e').2
        omega
      · intro u hu
        rw [List.mem_flatMap] at hu
        obtain ⟨t, _, hu⟩ := hu
        simp [Tb.cells] at hu
        rcases hu with rfl | rfl <;> rfl
      · intro u hu
        simp at hu
        rcases hu with rfl | rfl <;> rfl
      · rintro e w' ⟨g, cap, he, ho, hg, hH⟩
        refine ⟨g, cap, he, ?_, hg, hH, (HL4.out.bk.ext hW).kept hg (own_type HOW.out HL4.out.bk (by decide))⟩
        rw [List.flatMap_cons, show Tb.cells ⟨tb, tv, Y⟩ = [.string bs, .pointer (some ⟨tb, 0, none⟩)] by unfold Tb.cells; rw [HBS.out]]
        exact ho
    have HIN := Lib.hid hin
    have hfin : ∀ (W6 w6 w7 : World) (g cap : Nat), Ext W4 W6 → W6.grownBy w6 (Value.slice A1 n1 c1).ownBlock → w6.ownsRow 0 118 2 (.slice (some ⟨g, 0, none⟩) (n1 + 1) cap) (n1 + 1) (((⟨tb, tv, Y⟩ : Tb) :: ts1).flatMap Tb.cells) → ((Value.slice A1 n1 c1).ownBlock = some g ∨ W6.heap.size ≤ g) → StAt w7 0 w6.heap.size (.slice none 0 0) [] → Ext w6 w7 →
        ∃ F', LOp w ((w7.setCell ⟨x, 2, none⟩ (.slice (some ⟨g, 0, none⟩) (n1 + 1) cap)).setCell ⟨x, 1, none⟩ (.pointer (some ⟨w6.heap.size, 0, none⟩))) F x lim [] (Y :: flushT T) F' := by
      intro W6 w6 w7 g cap h6 hg6 own6 hH6 st7 hb7
      have L4 := HL4.out
      have k6 : Chg W4 w6 (fun k => (Value.slice A1 n1 c1).ownBlock = some k) := (h6.chg _).trans (gb_chg hg6) fun g _ hg => hg
      have k7 : Chg W4 w7 (fun k => (Value.slice A1 n1 c1).ownBlock = some k) := k6.trans (hb7.chg _) fun g _ hg => hg
      have bk7 := L4.bk.chg k7 (own_type HOW.out L4.bk (by decide))
      obtain ⟨W8, hW8⟩ : ∃ W8, W8 = (w7.setCell ⟨x, 2, none⟩ (.slice (some ⟨g, 0, none⟩) (n1 + 1) cap)).setCell ⟨x, 1, none⟩ (.pointer (some ⟨w6.heap.size, 0, none⟩)) := ⟨_, rfl⟩
      rw [← hW8]
      have bk8 : Bk W8 x 116 #[.int .i64 lim, .pointer (some ⟨w6.heap.size, 0, none⟩), .slice (some ⟨g, 0, none⟩) (n1 + 1) cap] := by
        rw [hW8]
        exact (bk7.set_ 2 _).set_ 1 _
      have k8 : Chg w7 W8 (fun k => k = x) := by
        rw [hW8]
        exact ((gb_chg (gb_set w7 x 2 _)).mono (T := fun k => k = x) fun g _ hg => by injection hg with hg; exact hg.symm).trans (gb_chg (gb_set _ x 1 _)) fun g _ hg => by injection hg with hg; exact hg.symm
      have own7 := own_ext own6 hb7
      have hx4 := L4.bk.lt
      have hs46 : W4.heap.size ≤ w6.heap.size := k6.size
      have hsc4 : wc.heap.size ≤ W4.heap.size := e4w.size
      have own8 := own_chg own7 k8 fun g hg e => own_type own7 bk7 (by decide) (by rw [← e]; exact hg)
      have ht : ∀ (b : Nat) (t : Tb), TbAt W4 b t.blk t.row t.es → TbAt W8 0 t.blk t.row t.es := fun b t h => by
        have h7 := h.chg k7 (own_type HOW.out h.bk (by decide)) (fun g hg hg' => own_own h.own HOW.out (by decide) hg hg')
        exact TbAt.lower (h7.chg k8 (bk_ne h7.bk bk7 (by decide)) (fun g hg e => own_type h7.own bk7 (by decide) (by rw [← e]; exact hg))) (Nat.zero_le _)
      have k48 : Chg W4 W8 F1 := (k7.mono fun g _ hg => HF1.out g (.inr (.inr (.inr (.inl hg))))).trans (k8.mono fun g _ hg => HF1.out g (.inl hg)) fun g _ hg => hg
      have htm : ∀ t ∈ (⟨tb, tv, Y⟩ : Tb) :: ts1, TbAt W8 0 t.blk t.row t.es := fun t hm => by
        rcases List.mem_cons.1 hm with rfl | hm
        · exact ht _ ⟨tb, tv, Y⟩ HT4.out
        · exact ht _ t (L4.tab t hm)
      refine ⟨LFoot x w6.heap.size (.slice none 0 0) (.slice (some ⟨g, 0, none⟩) (n1 + 1) cap) (⟨tb, tv, Y⟩ :: ts1), HOP.out.trans ⟨⟨w6.heap.size, .slice none 0 0, .slice (some ⟨g, 0, none⟩) (n1 + 1) cap, ⟨tb, tv, Y⟩ :: ts1, ⟨bk8, ?_, ?_, htm, ?_, ?_⟩, ?_, fun g hg => hg⟩, (e4w.chg F1).trans k48 fun g _ hg => hg, fun u hu => ?_⟩⟩
      · exact st7.chg k8 (by omega) (fun g hg => by simp [Value.ownBlock] at hg)
      · rw [List.length_cons, HN1.out]; exact own8
      · intro t hm g hg hg'
        simp [Value.ownBlock] at hg'
      · rw [List.length_cons, HN1.out]; omega
      · rw [List.map_cons, HT1.out]
      · rcases hu with rfl | rfl | hu | hu | ⟨t, hm, hu⟩
        · exact .inl (HF1.out _ (.inl rfl))
        · exact .inr (by omega)
        · simp [Value.ownBlock] at hu
        · obtain rfl : g = u := by simpa [Value.ownBlock] using hu
          rcases hH6 with h | h
          · exact .inl (HF1.out _ (.inr (.inr (.inr (.inl h)))))
          · have := h6.size
            exact .inr (by omega)
        · rcases List.mem_cons.1 hm with rfl | hm
          · rcases hu with rfl | hu
            · exact .inr htb2
            · exact .inr (HTV.out u hu)
          · exact .inl (HF1.out _ (.inr (.inr (.inr (.inr ⟨t, hm, hu⟩)))))
    have HFIN := Lib.hid hfin
    clear hfin
    have hxl := HL4.out.bk.lt
    have hxne : x ≠ W4.heap.size := Nat.ne_of_lt hxl
    have x2a : (W4.alloc (.cells #[.string bs, .pointer (some ⟨tb, 0, none⟩)] 118)).cell? ⟨x, 2, none⟩ = some (.slice A1 n1 c1) := (HL4.out.bk.alloc _).cell 2
    clear hin
    go_region_with (first
      | (go_at_call 90; (with_reducible refine (HIN.out _ _ ?_ ?_ ?_).mono ?_); (focus ((repeat (with_reducible first | exact Ext.refl _ | assumption | refine Ext.drew ?_ | refine Ext.drewN ?_ _ | refine Ext.alloc ?_ _ | refine Ext.trans ?_ (by with_reducible assumption))); done)); (focus ((repeat (with_reducible first | assumption | (refine Bk.at_ _ _ _ _ ?_; simp; done) | refine Bk.drew ?_ | refine Bk.drewN ?_ _ | refine Bk.alloc ?_ _ | refine Bk.ext ?_ (by with_reducible assumption))); done)); (focus (first | (simp; done) | exact e7.size)); rintro _ w6 ⟨g, cap, rfl, own6, hg6, hH6, bk6⟩; have r61 : w6.cell? ⟨x, 1, none⟩ = some (.pointer (some ⟨sb1, 0, none⟩)) := bk6.cell 1; have r62 : w6.cell? ⟨x, 2, none⟩ = some (.slice A1 n1 c1) := bk6.cell 2; have f61 : w6.frozen? ⟨x, 1, none⟩ = false := bk6.frozen 1; have f62 : w6.frozen? ⟨x, 2, none⟩ = false := bk6.frozen 2)
      | (go_at_call 38; refine (SNew_any 0 _ (Nat.zero_le _)).mono ?_; rintro _ w7 ⟨rfl, st7, hb7⟩; first | (have bk7 := bk6.ext hb7; have r71 : w7.cell? ⟨x, 1, none⟩ = some (.pointer (some ⟨sb1, 0, none⟩)) := bk7.cell 1; have r72 : w7.cell? ⟨x, 2, none⟩ = some (.slice A1 n1 c1) := bk7.cell 2; have f71 : w7.frozen? ⟨x, 1, none⟩ = false := bk7.frozen 1; have f72 : w7.frozen? ⟨x, 2, none⟩ = false := bk7.frozen 2) | (have e7 : Ext W4 w7 := (by (repeat (with_reducible first | exact Ext.refl _ | assumption | refine Ext.drew ?_ | refine Ext.drewN ?_ _ | refine Ext.alloc ?_ _ | refine Ext.trans ?_ (by with_reducible assumption)))); have bk7 := HL4.out.bk.ext e7; have r72 : w7.cell? ⟨x, 2, none⟩ = some (.slice A1 n1 c1) := bk7.cell 2; have B7 := HB4.out.ext e7; have b70 : w7.cell? ⟨w3.heap.size, 0, none⟩ = some (.string bs) := B7.cell 0; have b71 : w7.cell? ⟨w3.heap.size, 1, none⟩ = some (.pointer (some ⟨tb, 0, none⟩)) := B7.cell 1)) | fail)
    all_goals
      go_wp2_with fail
      go_ret
      exact ⟨rfl, HFIN.out _ _ _ _ _ (by (repeat (with_reducible first | exact Ext.refl _ | assumption | refine Ext.drew ?_ | refine Ext.drewN ?_ _ | refine Ext.alloc ?_ _ | refine Ext.trans ?_ (by with_reducible assumption)))) hg6 own6 hH6 st7 hb7⟩
end Go.Proofs.YtnafegofmbhahaaDoor
