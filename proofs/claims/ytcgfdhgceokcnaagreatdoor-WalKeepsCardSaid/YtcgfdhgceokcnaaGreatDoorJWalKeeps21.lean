/- lsm: Flush. -/
import Derived.Test.YtcgfdhgceokcnaaGreatDoorJWalKeeps20
import Derived.Laws.AppendOwnNone
namespace Go.Proofs.YtcgfdhgceokcnaaGreatDoor
open Go.RowKit Go.WideShapes
set_option linter.unusedVariables false
attribute [local go_sem ↓] Go.wp_at_zero Go.wp_at_succ

set_option maxRecDepth 100000 in
set_option maxHeartbeats 2000000 in
theorem LFlushH_any (F H : Nat → Prop) (x : Nat) (lim : Int) (Y : List Pr) (T : List (List Pr)) (w : World) (h : LMH w F H x lim Y T) (hHl : ∀ g, H g → g < w.heap.size) (htot : totL T ≤ 1000) :
    Calls Tryz.prog 114 #[.pointer (some ⟨x, 0, none⟩)] w fun e w' => e = .returned (errR (flK Y)) ∧ ∃ F', LOH w w' F H x lim (flY Y) (flT Y T) F' := by
  obtain ⟨hE, hN, hG⟩ := errR_rules
  have HM := Lib.hid h
  have HMY := Lib.hid h.many
  have HME := Lib.hid (LMergeH_any F H x lim Y T w h hHl htot)
  have HFL := Lib.hid (flush_many (T := T))
  have HHL := Lib.hid hHl
  have hszh := Lib.hid (fun g (hg : H g) => hHl g hg)
  obtain ⟨sb, sv, lv, ts, hL, hT, -, -⟩ := h
  obtain ⟨n, hn⟩ : ∃ n, ts.length = n := ⟨_, rfl⟩
  have hTn : T.length = n := by rw [← hT, List.length_map, hn]
  have ow := hL.own
  rw [hn] at ow
  obtain ⟨A, c, rfl, hc, hr, -⟩ := own_rd ow
  have c1 : w.cell? ⟨x, 1, none⟩ = some (.pointer (some ⟨sb, 0, none⟩)) := hL.bk.cell 1
  have c2 : w.cell? ⟨x, 2, none⟩ = some (.slice A n c) := hL.bk.cell 2
  have HTN := Lib.hid hTn
  have HS := Lib.hid (SLen_any 0 sb sv Y w hL.st)
  clear ow hr hL hT hn hTn htot hHl hszh
  obtain ⟨y, hy⟩ : ∃ y, Y.length = y := ⟨_, rfl⟩
  rw [hy] at HS
  have HY := Lib.hid hy
  clear hy
  by_cases hy0 : y = 0
  · subst hy0
    have hk : flK Y = 6 := if_pos HY.out
    rw [hk, flY_nil HY.out, flT_nil HY.out]
    clear hk
    go_enter Tryz.func114, Tryz.ntmps114
    go_wp2_with fail
    refine HS.out.mono ?_
    rintro _ _ ⟨rfl, rfl⟩
    go_wp2_with fail
    go_ret
    exact ⟨rfl, F, HM.out.op (Ext.refl _)⟩
  · have hk : flK Y = 0 := if_neg (by rw [HY.out]; exact hy0)
    have hfl : flT Y T = Y :: flushT T := flT_cons (by rw [HY.out]; exact hy0)
    have hfy : flY Y = [] := rfl
    rw [hk, errR_0, hfl, hfy]
    have hyi : ¬ (y : Int) = 0 := by omega
    clear hk hfl hfy hy0
    go_enter Tryz.func114, Tryz.ntmps114
    go_wp2_with fail
    refine HS.out.mono ?_
    rintro _ _ ⟨rfl, rfl⟩
    clear HS
    go_upto_if 18 with (fail)
    go_cut [2, 3] (fun v u wc => v = .nilIface ∧ ∃ F1, LOH w wc F H x lim Y (flushT T) F1)
    case first =>
      as_aux_lemma =>
      by_cases h8 : 8 ≤ n
      · have h8i : (8 : Int) ≤ (n : Int) := by omega
        have hk : mgK T = 0 := if_neg (by rw [HTN.out]; omega)
        have hft : flushT T = mergeT T := if_pos (by rw [HTN.out]; exact h8)
        have HFT := Lib.hid hft
        rw [hk, errR_0] at HME
        clear hk hft
        go_wp2_with fail
        refine HME.out.mono ?_
        rintro _ w1 ⟨rfl, hop⟩
        have HOP := Lib.hid hop
        clear hop
        go_wp2_with fail
        go_meet
        exact ⟨rfl, by rw [HFT.out]; exact HOP.out⟩
      · have h8i : ¬ (8 : Int) ≤ (n : Int) := by omega
        have hft : flushT T = T := if_neg (by rw [HTN.out]; exact h8)
        have HFT := Lib.hid hft
        clear hft
        go_wp2_with fail
        go_meet
        exact ⟨rfl, F, by rw [HFT.out]; exact HM.out.op (Ext.refl _)⟩
    case rest =>
    as_aux_lemma =>
    rename_i v3 wc
    obtain ⟨rfl, F1, hop⟩ := hcut
    obtain ⟨sb1, sv1, lv1, ts1, hL1, hT1, hF1, hH1⟩ := id hop.at_
    have HH1 := Lib.hid hH1
    have HSZ := Lib.hid hop.chg.size
    have HOP := Lib.hid hop
    have HT1 := Lib.hid hT1
    have HF1 := Lib.hid hF1
    have HL1 := Lib.hid hL1
    have x1 : wc.cell? ⟨x, 1, none⟩ = some (.pointer (some ⟨sb1, 0, none⟩)) := hL1.bk.cell 1
    have HA := Lib.hid (SAll_any 0 sb1 sv1 Y wc hL1.st)
    rw [HY.out] at HA
    have hy60 : y ≤ 60 := by rw [← HY.out]; exact hL1.st.len
    have hn7 : ts1.length ≤ 7 := by
      have h1 := HFL.out
      rw [← hT1, List.length_map] at h1
      exact h1
    have HN7 := Lib.hid hn7
    clear hop hT1 hF1 hL1 hH1 c1 c2 hn7 HME HMY HFL HM
    go_wp2_with fail
    refine HA.out.mono ?_
    rintro _ w2 ⟨⟨v2, rfl, o2⟩, hb2⟩
    obtain ⟨A2, c2', rfl, hc2, hr2, -⟩ := own_rd o2
    have HB := Lib.hid (built_any A2 y c2' Y w2 hr2 hc2 (by omega) (tblK_zero.2 ⟨HL1.out.st.asc, HL1.out.st.ok⟩))
    clear o2 hr2 HA x1
    go_wp2_with fail
    refine HB.out.mono ?_
    rintro _ w3 ⟨⟨tb, tv, rfl, tb3, htb⟩, hb3⟩
    have HTB := Lib.hid tb3
    obtain ⟨bs, HBS⟩ : ∃ b, Hid (tabB Y = b) := ⟨_, rfl⟩
    rw [HBS.out]
    have B4 := Bk.at_ w3 89 #[.string bs, .pointer (some ⟨tb, 0, none⟩)] w3.heap.size rfl
    have e4 : Ext w3 (w3.alloc (.cells #[.string bs, .pointer (some ⟨tb, 0, none⟩)] 89)) := (Ext.refl _).alloc _
    have z0 : (w3.alloc (.cells #[.string bs, .pointer (some ⟨tb, 0, none⟩)] 89)).cell? ⟨w3.heap.size, 0, none⟩ = some (.string bs) := B4.cell 0
    have z1 : (w3.alloc (.cells #[.string bs, .pointer (some ⟨tb, 0, none⟩)] 89)).cell? ⟨w3.heap.size, 1, none⟩ = some (.pointer (some ⟨tb, 0, none⟩)) := B4.cell 1
    have HT4 := Lib.hid (HTB.out.ext e4)
    have e4w := (hb2.trans hb3).trans e4
    have HL4 := Lib.hid (HL1.out.ext e4w)
    have htv : ∀ g, tv.ownBlock = some g → wc.heap.size ≤ g := fun g hg => by
      have h1 := own_block tb3.own g hg
      have := hb2.size
      omega
    have HTV := Lib.hid htv
    have htb2 : wc.heap.size ≤ tb := by have := hb2.size; omega
    obtain ⟨n1, hn1⟩ : ∃ n, ts1.length = n := ⟨_, rfl⟩
    have HN1 := Lib.hid hn1
    have ow1 := HL4.out.own
    rw [hn1] at ow1
    obtain ⟨A1, c1, rfl, hc1, -, -⟩ := own_rd ow1
    have HOW := Lib.hid ow1
    have x2 : (w3.alloc (.cells #[.string bs, .pointer (some ⟨tb, 0, none⟩)] 89)).cell? ⟨x, 2, none⟩ = some (.slice A1 n1 c1) := HL4.out.bk.cell 2
    have hn18 : n1 ≤ 7 := by rw [← hn1]; exact HN7.out
    have HB4 := Lib.hid B4
    clear tb3 B4 htv htb hn1 ow1
    go_upto_region 10 with (fail)
    generalize w3.alloc (.cells #[.string bs, .pointer (some ⟨tb, 0, none⟩)] 89) = W4 at *
    have hin : ∀ (q : Nat) (W : World), Ext W4 W → Bk W q 89 #[.string bs, .pointer (some ⟨tb, 0, none⟩)] → W4.heap.size ≤ q → Calls Tryz.prog 130 #[.slice A1 n1 c1, .int .i64 0, .slice (some ⟨q, 0, none⟩) 1 1] W fun e w' =>
        ∃ g cap, e = .returned (.slice (some ⟨g, 0, none⟩) (n1 + 1) cap) ∧ w'.ownsRow 0 89 2 (.slice (some ⟨g, 0, none⟩) (n1 + 1) cap) (n1 + 1) (((⟨tb, tv, Y⟩ : Tb) :: ts1).flatMap Tb.cells) ∧ W.grownBy w' (Value.slice A1 n1 c1).ownBlock ∧ ((Value.slice A1 n1 c1).ownBlock = some g ∨ W.heap.size ≤ g) ∧ Bk w' x 82 #[.int .i64 lim, .pointer (some ⟨sb1, 0, none⟩), (.slice A1 n1 c1)] := fun q W hW hBk hq => by
      refine (InsLert_own 0 n1 0 q (.slice A1 n1 c1) (ts1.flatMap Tb.cells) #[.string bs, .pointer (some ⟨tb, 0, none⟩)] W (Nat.zero_le _) (by omega) (Nat.zero_le _) (own_ext HOW.out hW) rfl hBk ?_ ?_ ?_).mono ?_
      · intro e'
        have := (HOW.out.lt _ e').2
        omega
      · intro u hu
        rw [List.mem_flatMap] at hu
        obtain ⟨t, _, hu⟩ := hu
        simp [Tb.cells] at hu
        rcases hu with rfl | rfl <;> rfl
      · intro u hu
        simp at hu
        rcases hu with rfl | rfl <;> rfl
      · rintro e w' ⟨g, cap, he, ho, hg, hH⟩
        refine ⟨g, cap, he, ?_, hg, hH, (HL4.out.bk.ext hW).kept hg (own_type HOW.out HL4.out.bk (by decide))⟩
        rw [List.flatMap_cons, show Tb.cells ⟨tb, tv, Y⟩ = [.string bs, .pointer (some ⟨tb, 0, none⟩)] by unfold Tb.cells; rw [HBS.out]]
        exact ho
    have HIN := Lib.hid hin
    have hfin : ∀ (W6 w6 w7 : World) (g cap : Nat), Ext W4 W6 → W6.grownBy w6 (Value.slice A1 n1 c1).ownBlock → w6.ownsRow 0 89 2 (.slice (some ⟨g, 0, none⟩) (n1 + 1) cap) (n1 + 1) (((⟨tb, tv, Y⟩ : Tb) :: ts1).flatMap Tb.cells) → ((Value.slice A1 n1 c1).ownBlock = some g ∨ W6.heap.size ≤ g) → StAt w7 0 w6.heap.size (.slice none 0 0) [] → Ext w6 w7 →
        ∃ F', LOH w ((w7.setCell ⟨x, 2, none⟩ (.slice (some ⟨g, 0, none⟩) (n1 + 1) cap)).setCell ⟨x, 1, none⟩ (.pointer (some ⟨w6.heap.size, 0, none⟩))) F H x lim [] (Y :: flushT T) F' := by
      intro W6 w6 w7 g cap h6 hg6 own6 hH6 st7 hb7
      have L4 := HL4.out
      have k6 : Chg W4 w6 (fun k => (Value.slice A1 n1 c1).ownBlock = some k) := (h6.chg _).trans (gb_chg hg6) fun g _ hg => hg
      have k7 : Chg W4 w7 (fun k => (Value.slice A1 n1 c1).ownBlock = some k) := k6.trans (hb7.chg _) fun g _ hg => hg
      have bk7 := L4.bk.chg k7 (own_type HOW.out L4.bk (by decide))
      obtain ⟨W8, hW8⟩ : ∃ W8, W8 = (w7.setCell ⟨x, 2, none⟩ (.slice (some ⟨g, 0, none⟩) (n1 + 1) cap)).setCell ⟨x, 1, none⟩ (.pointer (some ⟨w6.heap.size, 0, none⟩)) := ⟨_, rfl⟩
      rw [← hW8]
      have bk8 : Bk W8 x 82 #[.int .i64 lim, .pointer (some ⟨w6.heap.size, 0, none⟩), .slice (some ⟨g, 0, none⟩) (n1 + 1) cap] := by
        rw [hW8]
        exact (bk7.set_ 2 _).set_ 1 _
      have k8 : Chg w7 W8 (fun k => k = x) := by
        rw [hW8]
        exact ((gb_chg (gb_set w7 x 2 _)).mono (T := fun k => k = x) fun g _ hg => by injection hg with hg; exact hg.symm).trans (gb_chg (gb_set _ x 1 _)) fun g _ hg => by injection hg with hg; exact hg.symm
      have own7 := own_ext own6 hb7
      have hx4 := L4.bk.lt
      have hs46 : W4.heap.size ≤ w6.heap.size := k6.size
      have hsc4 : wc.heap.size ≤ W4.heap.size := e4w.size
      have own8 := own_chg own7 k8 fun g hg e => own_type own7 bk7 (by decide) (by rw [← e]; exact hg)
      have ht : ∀ (b : Nat) (t : Tb), TbAt W4 b t.blk t.row t.es → TbAt W8 0 t.blk t.row t.es := fun b t h => by
        have h7 := h.chg k7 (own_type HOW.out h.bk (by decide)) (fun g hg hg' => own_own h.own HOW.out (by decide) hg hg')
        exact TbAt.lower (h7.chg k8 (bk_ne h7.bk bk7 (by decide)) (fun g hg e => own_type h7.own bk7 (by decide) (by rw [← e]; exact hg))) (Nat.zero_le _)
      have k48 : Chg W4 W8 (fun g => F1 g ∧ ¬ H g) := (k7.mono fun g _ hg => ⟨HF1.out g (.inr (.inr (.inr (.inl hg)))), HH1.out g (.inr (.inr (.inr hg)))⟩).trans (k8.mono fun g _ hg => ⟨HF1.out g (.inl hg), HH1.out g (.inl hg)⟩) fun g _ hg => hg
      have htm : ∀ t ∈ (⟨tb, tv, Y⟩ : Tb) :: ts1, TbAt W8 0 t.blk t.row t.es := fun t hm => by
        rcases List.mem_cons.1 hm with rfl | hm
        · exact ht _ ⟨tb, tv, Y⟩ HT4.out
        · exact ht _ t (L4.tab t hm)
      refine ⟨LFoot x w6.heap.size (.slice none 0 0) (.slice (some ⟨g, 0, none⟩) (n1 + 1) cap) (⟨tb, tv, Y⟩ :: ts1), HOP.out.trans ⟨⟨w6.heap.size, .slice none 0 0, .slice (some ⟨g, 0, none⟩) (n1 + 1) cap, ⟨tb, tv, Y⟩ :: ts1, ⟨bk8, ?_, ?_, htm, ?_, ?_⟩, ?_, fun g hg => hg, ?_⟩, (e4w.chg (fun g => F1 g ∧ ¬ H g)).trans k48 fun g _ hg => hg, fun u hu => ?_⟩⟩
      · exact st7.chg k8 (by omega) (fun g hg => by simp [Value.ownBlock] at hg)
      · rw [List.length_cons, HN1.out]; exact own8
      · intro t hm g hg hg'
        simp [Value.ownBlock] at hg'
      · rw [List.length_cons, HN1.out]; omega
      · rw [List.map_cons, HT1.out]
      · intro u hu
        have hsz := HSZ.out
        rcases hu with hu | hu | hu | hu
        · exact HH1.out u (.inl hu)
        · intro hh
          have := HHL.out u hh
          omega
        · simp [Value.ownBlock] at hu
        · obtain rfl : g = u := by simpa [Value.ownBlock] using hu
          rcases hH6 with h | h
          · exact HH1.out _ (.inr (.inr (.inr h)))
          · intro hh
            have := h6.size
            have := HHL.out _ hh
            omega
      · rcases hu with rfl | rfl | hu | hu | ⟨t, hm, hu⟩
        · exact .inl (HF1.out _ (.inl rfl))
        · exact .inr (by omega)
        · simp [Value.ownBlock] at hu
        · obtain rfl : g = u := by simpa [Value.ownBlock] using hu
          rcases hH6 with h | h
          · exact .inl (HF1.out _ (.inr (.inr (.inr (.inl h)))))
          · have := h6.size
            exact .inr (by omega)
        · rcases List.mem_cons.1 hm with rfl | hm
          · rcases hu with rfl | hu
            · exact .inr htb2
            · exact .inr (HTV.out u hu)
          · exact .inl (HF1.out _ (.inr (.inr (.inr (.inr ⟨t, hm, hu⟩)))))
    have HFIN := Lib.hid hfin
    clear hfin
    have hxl := HL4.out.bk.lt
    have hxne : x ≠ W4.heap.size := Nat.ne_of_lt hxl
    have x2a : (W4.alloc (.cells #[.string bs, .pointer (some ⟨tb, 0, none⟩)] 89)).cell? ⟨x, 2, none⟩ = some (.slice A1 n1 c1) := (HL4.out.bk.alloc _).cell 2
    clear hin
    go_region_with (first
      | (go_at_call 130; (with_reducible refine (HIN.out _ _ ?_ ?_ ?_).mono ?_); (focus ((repeat (with_reducible first | exact Ext.refl _ | assumption | refine Ext.drew ?_ | refine Ext.drewN ?_ _ | refine Ext.alloc ?_ _ | refine Ext.trans ?_ (by with_reducible assumption))); done)); (focus ((repeat (with_reducible first | assumption | (refine Bk.at_ _ _ _ _ ?_; simp; done) | refine Bk.drew ?_ | refine Bk.drewN ?_ _ | refine Bk.alloc ?_ _ | refine Bk.ext ?_ (by with_reducible assumption))); done)); (focus (first | (simp; done) | exact e7.size)); rintro _ w6 ⟨g, cap, rfl, own6, hg6, hH6, bk6⟩; have r61 : w6.cell? ⟨x, 1, none⟩ = some (.pointer (some ⟨sb1, 0, none⟩)) := bk6.cell 1; have r62 : w6.cell? ⟨x, 2, none⟩ = some (.slice A1 n1 c1) := bk6.cell 2; have f61 : w6.frozen? ⟨x, 1, none⟩ = false := bk6.frozen 1; have f62 : w6.frozen? ⟨x, 2, none⟩ = false := bk6.frozen 2)
      | (go_at_call 60; refine (SNew_any 0 _ (Nat.zero_le _)).mono ?_; rintro _ w7 ⟨rfl, st7, hb7⟩; first | (have bk7 := bk6.ext hb7; have r71 : w7.cell? ⟨x, 1, none⟩ = some (.pointer (some ⟨sb1, 0, none⟩)) := bk7.cell 1; have r72 : w7.cell? ⟨x, 2, none⟩ = some (.slice A1 n1 c1) := bk7.cell 2; have f71 : w7.frozen? ⟨x, 1, none⟩ = false := bk7.frozen 1; have f72 : w7.frozen? ⟨x, 2, none⟩ = false := bk7.frozen 2) | (have e7 : Ext W4 w7 := (by (repeat (with_reducible first | exact Ext.refl _ | assumption | refine Ext.drew ?_ | refine Ext.drewN ?_ _ | refine Ext.alloc ?_ _ | refine Ext.trans ?_ (by with_reducible assumption)))); have bk7 := HL4.out.bk.ext e7; have r72 : w7.cell? ⟨x, 2, none⟩ = some (.slice A1 n1 c1) := bk7.cell 2; have B7 := HB4.out.ext e7; have b70 : w7.cell? ⟨w3.heap.size, 0, none⟩ = some (.string bs) := B7.cell 0; have b71 : w7.cell? ⟨w3.heap.size, 1, none⟩ = some (.pointer (some ⟨tb, 0, none⟩)) := B7.cell 1)) | fail)
    all_goals
      go_wp2_with fail
      go_ret
      exact ⟨rfl, HFIN.out _ _ _ _ _ (by (repeat (with_reducible first | exact Ext.refl _ | assumption | refine Ext.drew ?_ | refine Ext.drewN ?_ _ | refine Ext.alloc ?_ _ | refine Ext.trans ?_ (by with_reducible assumption)))) hg6 own6 hH6 st7 hb7⟩
theorem LFlush_any (F : Nat → Prop) (x : Nat) (lim : Int) (Y : List Pr) (T : List (List Pr)) (w : World) (h : LM w F x lim Y T) (htot : totL T ≤ 1000) :
    Calls Tryz.prog 114 #[.pointer (some ⟨x, 0, none⟩)] w fun e w' => e = .returned (errR (flK Y)) ∧ ∃ F', LOp w w' F x lim (flY Y) (flT Y T) F' :=
  (LFlushH_any F nH x lim Y T w h (fun _ h => absurd h id) htot).mono fun _ _ ⟨he, F', ho⟩ => ⟨he, F', ho.free⟩
end Go.Proofs.YtcgfdhgceokcnaaGreatDoor

/- lsm: do, Put, Drop. -/
namespace Go.Proofs.YtcgfdhgceokcnaaGreatDoor
open Go.RowKit Go.WideShapes
set_option linter.unusedVariables false
attribute [local go_sem ↓] Go.wp_at_zero Go.wp_at_succ

set_option maxRecDepth 100000 in
set_option maxHeartbeats 2000000 in
theorem ldoH_any (F H : Nat → Prop) (x lim : Nat) (Y : List Pr) (T : List (List Pr)) (p : Pr) (w : World) (h : LMH w F H x lim Y T) (hHl : ∀ g, H g → g < w.heap.size) (htot : totL T ≤ 1000) (hlim : 1 ≤ lim) (hp : p.gone = true → p.value.size = 0) :
    Calls Tryz.prog 92 #[.pointer (some ⟨x, 0, none⟩), p.val] w fun e w' => e = .returned (errR (putK Y p)) ∧ ∃ F', LOH w w' F H x lim (doY lim Y p) (doT lim Y T p) F' := by
  obtain ⟨hE, hN, hG⟩ := errR_rules
  obtain ⟨pk, pv, pg⟩ := p
  have B1 := Bk.at_ w 31 #[.string pk, .string pv, .bool pg] w.heap.size rfl
  have e1 : Ext w (w.alloc (.cells #[.string pk, .string pv, .bool pg] 31)) := (Ext.refl _).alloc _
  have h1 := h.ext e1
  have HPC := Lib.hid (lputH_any F H x lim Y T ⟨pk, pv, pg⟩ _ h1 (fun g hg => Nat.lt_of_lt_of_le (hHl g hg) e1.size) hp)
  have HOP0 := Lib.hid (h.op e1)
  obtain ⟨k, hk⟩ : ∃ k, putK Y ⟨pk, pv, pg⟩ = k := ⟨_, rfl⟩
  have HK := Lib.hid hk
  rw [hk] at HPC ⊢
  have HTOT := Lib.hid htot
  have HHL := Lib.hid hHl
  have hze := e1.size
  have HZE := Lib.hid hze
  clear hk h h1 hp htot hHl hze
  go_enter Tryz.func92, Tryz.ntmps92
  go_wp2_with fail
  refine HPC.out.mono ?_
  rintro _ w1 ⟨rfl, F1, hop⟩
  have HOP := Lib.hid (HOP0.out.trans hop)
  clear hop HPC B1
  by_cases hk0 : k = 0
  · subst hk0
    rw [errR_0]
    obtain ⟨S, hS⟩ : ∃ S, storeL Y ⟨pk, pv, pg⟩ = S := ⟨_, rfl⟩
    have HS := Lib.hid hS
    have hop := HOP.out
    rw [hS] at hop
    have HOP := Lib.hid hop
    obtain ⟨sb, sv, lv, ts, hL, -, -, -⟩ := hop.at_
    have c0 : ∀ x_1 : WE w1, x_1.W.cell? ⟨x, 0, none⟩ = some (.int .i64 (lim : Int)) := fun x_1 => (hL.ext x_1.h).bk.cell 0
    have c1 : ∀ x_1 : WE w1, x_1.W.cell? ⟨x, 1, none⟩ = some (.pointer (some ⟨sb, 0, none⟩)) := fun x_1 => (hL.ext x_1.h).bk.cell 1
    have HSL := Lib.hid fun x_1 : WE w1 => SLen_any 0 sb sv S x_1.W (hL.ext x_1.h).st
    have HFL := Lib.hid fun W (e : Ext w1 W) => LFlushH_any F1 H x lim S T W (hop.at_.ext e) (fun g hg => Nat.lt_of_lt_of_le (HHL.out g hg) (Nat.le_trans hop.chg.size e.size)) HTOT.out
    clear hS hop hL
    obtain ⟨n, hn⟩ : ∃ n, S.length = n := ⟨_, rfl⟩
    rw [hn] at HSL
    have HN := Lib.hid hn
    clear hn
    go_upto_region 4 with (fail)
    (refine wp_region_ext (w0 := w1) (by kernel_rfl) (by kernel_rfl) (by (repeat (with_reducible first | exact Ext.refl _ | assumption | refine Ext.drew ?_ | refine Ext.drewN ?_ _ | refine Ext.alloc ?_ _ | refine Ext.trans ?_ (by with_reducible assumption)))) ?_; (repeat (go_big_quiet_step ((go_at_call 113; exact quietS (HSL.out _))))); refine wpQuiet_nil ?_)
    intro w2 hb2
    clear c0 c1
    by_cases hc : lim ≤ n
    · have hci : (lim : Int) ≤ (n : Int) := by omega
      have hfk : flK S = 0 := if_neg (by rw [HN.out]; omega)
      have hY : doY lim Y ⟨pk, pv, pg⟩ = flY S := by unfold doY flY; rw [if_pos ⟨HK.out, by rw [HS.out, HN.out]; exact hc⟩]
      have hT : doT lim Y T ⟨pk, pv, pg⟩ = flT S T := by
        rw [flT_cons (by rw [HN.out]; omega)]
        unfold doT
        rw [if_pos ⟨HK.out, by rw [HS.out, HN.out]; exact hc⟩, HS.out]
      have HY := Lib.hid hY
      have HT := Lib.hid hT
      have HC := Lib.hid (HFL.out w2 hb2)
      rw [hfk, errR_0] at HC
      clear hY hT hfk hc
      go_wp2_with fail
      refine HC.out.mono ?_
      rintro _ w3 ⟨rfl, F3, hop3⟩
      have HO3 := Lib.hid hop3
      clear hop3
      go_wp2_with fail
      go_ret
      exact ⟨rfl, F3, by rw [HY.out, HT.out]; exact (HOP.out.trans (HOP.out.at_.op hb2)).trans HO3.out⟩
    · have hci : ¬ (lim : Int) ≤ (n : Int) := by omega
      have hY : doY lim Y ⟨pk, pv, pg⟩ = S := by unfold doY; rw [if_neg (fun h => hc (by rw [← HN.out, ← HS.out]; exact h.2)), HS.out]
      have hT : doT lim Y T ⟨pk, pv, pg⟩ = T := by unfold doT; rw [if_neg (fun h => hc (by rw [← HN.out, ← HS.out]; exact h.2))]
      have HY := Lib.hid hY
      have HT := Lib.hid hT
      clear hY hT hc
      go_wp2_with fail
      go_ret
      exact ⟨rfl, F1, by rw [HY.out, HT.out]; exact HOP.out.trans (HOP.out.at_.op hb2)⟩
  · have hok := isOk_no hk0
    have hb := do_bad (lim := lim) (T := T) (p := ⟨pk, pv, pg⟩) (by rw [HK.out]; exact hk0)
    have hs : storeL Y ⟨pk, pv, pg⟩ = Y := store_bad (by rw [HK.out]; exact hk0)
    have HB := Lib.hid hb
    have HS := Lib.hid hs
    clear hb hs hk0
    go_wp2_with fail
    go_ret
    refine ⟨rfl, F1, ?_⟩
    rw [HB.out.1, HB.out.2]
    have h1 := HOP.out
    rw [HS.out] at h1
    exact h1

set_option maxRecDepth 100000 in
theorem LPutH_any (F H : Nat → Prop) (x lim : Nat) (Y : List Pr) (T : List (List Pr)) (key value : ByteArray) (w : World) (h : LMH w F H x lim Y T) (hHl : ∀ g, H g → g < w.heap.size) (htot : totL T ≤ 1000) (hlim : 1 ≤ lim) :
    Calls Tryz.prog 63 #[.pointer (some ⟨x, 0, none⟩), .string key, .string value] w fun e w' => e = .returned (errR (putK Y ⟨key, value, false⟩)) ∧ ∃ F', LOH w w' F H x lim (doY lim Y ⟨key, value, false⟩) (doT lim Y T ⟨key, value, false⟩) F' := by
  have HC := Lib.hid (ldoH_any F H x lim Y T ⟨key, value, false⟩ w h hHl htot hlim (fun e => by cases e))
  clear h hHl
  go_enter Tryz.func63, Tryz.ntmps63
  go_wp2_with fail
  refine HC.out.mono ?_
  rintro _ w1 ⟨rfl, hh⟩
  have HH := Lib.hid hh
  clear hh
  go_wp2_with fail
  go_ret
  exact ⟨rfl, HH.out⟩
set_option maxRecDepth 100000 in
theorem LDropH_any (F H : Nat → Prop) (x lim : Nat) (Y : List Pr) (T : List (List Pr)) (key : ByteArray) (w : World) (h : LMH w F H x lim Y T) (hHl : ∀ g, H g → g < w.heap.size) (htot : totL T ≤ 1000) (hlim : 1 ≤ lim) :
    Calls Tryz.prog 62 #[.pointer (some ⟨x, 0, none⟩), .string key] w fun e w' => e = .returned (errR (putK Y ⟨key, ⟨#[]⟩, true⟩)) ∧ ∃ F', LOH w w' F H x lim (doY lim Y ⟨key, ⟨#[]⟩, true⟩) (doT lim Y T ⟨key, ⟨#[]⟩, true⟩) F' := by
  have HC := Lib.hid (ldoH_any F H x lim Y T ⟨key, ⟨#[]⟩, true⟩ w h hHl htot hlim (fun e => rfl))
  clear h hHl
  go_enter Tryz.func62, Tryz.ntmps62
  go_wp2_with fail
  refine HC.out.mono ?_
  rintro _ w1 ⟨rfl, hh⟩
  have HH := Lib.hid hh
  clear hh
  go_wp2_with fail
  go_ret
  exact ⟨rfl, HH.out⟩
theorem LPut_any (F : Nat → Prop) (x lim : Nat) (Y : List Pr) (T : List (List Pr)) (key value : ByteArray) (w : World) (h : LM w F x lim Y T) (htot : totL T ≤ 1000) (hlim : 1 ≤ lim) :
    Calls Tryz.prog 63 #[.pointer (some ⟨x, 0, none⟩), .string key, .string value] w fun e w' => e = .returned (errR (putK Y ⟨key, value, false⟩)) ∧ ∃ F', LOp w w' F x lim (doY lim Y ⟨key, value, false⟩) (doT lim Y T ⟨key, value, false⟩) F' :=
  (LPutH_any F nH x lim Y T key value w h (fun _ h => absurd h id) htot hlim).mono fun _ _ ⟨he, F', ho⟩ => ⟨he, F', ho.free⟩
theorem LDrop_any (F : Nat → Prop) (x lim : Nat) (Y : List Pr) (T : List (List Pr)) (key : ByteArray) (w : World) (h : LM w F x lim Y T) (htot : totL T ≤ 1000) (hlim : 1 ≤ lim) :
    Calls Tryz.prog 62 #[.pointer (some ⟨x, 0, none⟩), .string key] w fun e w' => e = .returned (errR (putK Y ⟨key, ⟨#[]⟩, true⟩)) ∧ ∃ F', LOp w w' F x lim (doY lim Y ⟨key, ⟨#[]⟩, true⟩) (doT lim Y T ⟨key, ⟨#[]⟩, true⟩) F' :=
  (LDropH_any F nH x lim Y T key w h (fun _ h => absurd h id) htot hlim).mono fun _ _ ⟨he, F', ho⟩ => ⟨he, F', ho.free⟩
end Go.Proofs.YtcgfdhgceokcnaaGreatDoor

/- lsm: Get. -/
namespace Go.Proofs.YtcgfdhgceokcnaaGreatDoor
open Go.RowKit Go.WideShapes
set_option linter.unusedVariables false
attribute [local go_sem ↓] Go.wp_at_zero Go.wp_at_succ

def oV (o : Option ByteArray) : ByteArray := match o with | some v => v | none => ⟨#[]⟩
def oK (o : Option ByteArray) : Int := match o with | some _ => 0 | none => 5
theorem look_cat (a b : List (List Pr)) (key : ByteArray) : lookLs (a ++ b) key = (lookLs a key).or (lookLs b key) := by
  induction a with
  | nil => rfl
  | cons l a ih =>
    show (getE l key).or (lookLs (a ++ b) key) = ((getE l key).or (lookLs a key)).or (lookLs b key)
    rw [ih, Option.or_assoc]
/-- what the loop knows: found in what is young, or in the first i levels, or in none -/
def LookI (Y : List Pr) (T : List (List Pr)) (key : ByteArray) (i : Nat) (hb : Bool) (q : Pr) : Prop := lookLs (Y :: T.take i) key = if hb = true then some q else none
theorem look_first (Y : List Pr) (T : List (List Pr)) (key : ByteArray) : LookI Y T key 0 (hasB Y key) (pairV Y key) := by
  show (getE Y key).or none = _
  rw [Option.or_none]
  unfold pairV
  cases hb : hasB Y key with
  | true =>
    obtain ⟨q, hq, hk⟩ := has_get hb
    have hg : getE Y key = some q := by unfold getE; rw [if_pos hb, hq]
    rw [hg]; rfl
  | false =>
    unfold getE
    rw [if_neg (by rw [hb]; decide)]; rfl
theorem look_next {Y : List Pr} {T : List (List Pr)} {key : ByteArray} {i : Nat} {q : Pr} {es : List Pr} (h : LookI Y T key i false q) (ht : T[i]? = some es) : LookI Y T key (i + 1) (hasB es key) (pairV es key) := by
  obtain ⟨h1, h2⟩ := List.getElem?_eq_some_iff.1 ht
  unfold LookI at h ⊢
  rw [List.take_succ_eq_append_getElem h1, h2, ← List.cons_append, look_cat, h]
  have := look_first es [] key
  unfold LookI at this
  rw [List.take_nil] at this
  rw [← this]
  rfl
theorem look_found {Y : List Pr} {T : List (List Pr)} {key : ByteArray} {i : Nat} {q : Pr} (h : LookI Y T key i true q) : seeL Y T key = vis (some q) := by
  unfold seeL
  rw [← List.take_append_drop i T, ← List.cons_append, look_cat, show lookLs (Y :: T.take i) key = some q from h]
  rfl
theorem look_none {Y : List Pr} {T : List (List Pr)} {key : ByteArray} {i : Nat} {q : Pr} (h : LookI Y T key i false q) (hi : T.length ≤ i) : seeL Y T key = none := by
  unfold LookI at h
  rw [List.take_of_length_le hi] at h
  unfold seeL
  rw [h]
  rfl
theorem tgk_ok (es : List Pr) (key : ByteArray) : isOk (tgK es key) = hasB es key := by
  unfold tgK
  cases hasB es key <;> rfl

set_option maxRecDepth 100000 in
set_option maxHeartbeats 2000000 in
theorem LGet_any (F : Nat → Prop) (x : Nat) (lim : Int) (Y : List Pr) (T : List (List Pr)) (key : ByteArray) (w : World) (h : LM w F x lim Y T) :
    Calls Tryz.prog 22 #[.pointer (some ⟨x, 0, none⟩), .string key] w fun e w' => e = .returned (.tuple #[.string (oV (seeL Y T key)), errR (oK (seeL Y T key))]) ∧ Ext w w' := by
  obtain ⟨hE, hN, hG⟩ := errR_rules
  obtain ⟨sb, sv, lv, ts, hL, hT, -, -⟩ := h
  obtain ⟨n, hn⟩ : ∃ n, ts.length = n := ⟨_, rfl⟩
  have hn8 : n ≤ 8 := by rw [← hn]; exact hL.len
  have ow := hL.own
  rw [hn] at ow
  obtain ⟨A, c, rfl, hc, hr, -⟩ := own_rd ow
  have hnc := hr.2.1
  have hxl := hL.bk.lt
  have c1 : w.cell? ⟨x, 1, none⟩ = some (.pointer (some ⟨sb, 0, none⟩)) := hL.bk.cell 1
  have HN := Lib.hid hn
  have HL := Lib.hid hL
  have HT := Lib.hid hT
  have HC := Lib.hid (SPair_any 0 sb sv Y key w hL.st)
  obtain ⟨o, ho⟩ : ∃ o, seeL Y T key = o := ⟨_, rfl⟩
  have HO := Lib.hid ho
  have HF := Lib.hid (look_first Y T key)
  rw [ho]
  obtain ⟨ov, hov⟩ : ∃ v, oV o = v := ⟨_, rfl⟩
  obtain ⟨ok, hok⟩ : ∃ v, oK o = v := ⟨_, rfl⟩
  rw [hov, hok]
  have HOV := Lib.hid hov
  have HOK := Lib.hid hok
  clear ow hn hL hT ho hov hok
  unfold maxLen at hc
  generalize hasB Y key = hb0 at *
  generalize pairV Y key = p0 at *
  obtain ⟨pk, pv, pg⟩ := p0
  go_enter Tryz.func22, Tryz.ntmps22
  go_wp2_with fail
  refine HC.out.mono ?_
  rintro _ w1 ⟨rfl, hb1⟩
  have B2 := Bk.at_ w1 31 #[.string pk, .string pv, .bool pg] w1.heap.size rfl
  have e2 : Ext w (w1.alloc (.cells #[.string pk, .string pv, .bool pg] 31)) := hb1.alloc _
  clear c1 HC
  go_upto_region 2 with (fail)
  generalize w1.alloc (.cells #[.string pk, .string pv, .bool pg] 31) = W2 at *
  obtain ⟨pb, hpb⟩ : ∃ pb, w1.heap.size = pb := ⟨_, rfl⟩
  have hpw : w.heap.size ≤ pb := by rw [← hpb]; exact hb1.size
  rw [hpb] at B2 ⊢
  have HB2 := Lib.hid B2
  clear hpb B2 hb1
  go_wp2_with fail
  go_loopw [7, 8, 9, 10] (fun hv y _ _ wr => ∃ (i : Nat) (hb : Bool) (q : Pr), hv = .bool hb ∧ y = .int .i64 i ∧ i ≤ n ∧ Ext w wr ∧ Hid (Bk wr pb 31 #[.string q.key, .string q.value, .bool q.gone]) ∧ Hid (LookI Y T key i hb q)) (fun _ y _ _ _ => n - (intOf y).toNat)
  case atStart => exact ⟨0, hb0, ⟨pk, pv, pg⟩, rfl, rfl, Nat.zero_le _, e2, HB2, HF⟩
  case round =>
    obtain ⟨i, hb, q, rfl, rfl, hi, hbw, hbk, hlk⟩ := hrel
    have x2 : wr.cell? ⟨x, 2, none⟩ = some (.slice A n c) := (HL.out.bk.ext hbw).cell 2
    obtain ⟨qk, qv, qg⟩ := q
    cases hb with
    | true =>
      have hq2 : wr.cell? ⟨pb, 2, none⟩ = some (.bool qg) := hbk.out.cell 2
      have hq1 : wr.cell? ⟨pb, 1, none⟩ = some (.string qv) := hbk.out.cell 1
      have hs := look_found hlk.out
      rw [HO.out] at hs
      cases qg with
      | true =>
        have hv1 : ov = ⟨#[]⟩ := by rw [← HOV.out, hs]; rfl
        have hv2 : ok = 5 := by rw [← HOK.out, hs]; rfl
        subst hv1 hv2
        clear hs
        by_cases hci : (i : Int) < (n : Int)
        all_goals
          go_wp2_with fail
          go_ret2
          exact ⟨rfl, hbw⟩
      | false =>
        have hv1 : ov = qv := by rw [← HOV.out, hs]; rfl
        have hv2 : ok = 0 := by rw [← HOK.out, hs]; rfl
        subst hv1 hv2
        clear hs
        by_cases hci : (i : Int) < (n : Int)
        all_goals
          go_wp2_with fail
          go_ret2
          exact ⟨by rw [errR_0]; rfl, hbw⟩
    | false =>
      by_cases hci : i < n
      · have hcI : (i : Int) < (n : Int) := by omega
        obtain ⟨t, ht⟩ : ∃ t, ts[i]? = some t := ⟨_, List.getElem?_eq_getElem (by rw [HN.out]; exact hci)⟩
        obtain ⟨ad, rfl, hb, y0, y1⟩ := (hr.ext hbw).getT ht
        have hTT : T[i]? = some t.es := by rw [← HT.out, List.getElem?_map, ht]; rfl
        have HLN := Lib.hid (look_next hlk.out hTT)
        have HTC := Lib.hid (TGet_any 0 t.blk t.row t.es key wr ((HL.out.tab t (List.mem_of_getElem? ht)).ext hbw))
        have hto := tgk_ok t.es key
        obtain ⟨tb, tv, te⟩ := t
        simp only at y0 y1 HLN HTC hto
        generalize pairV te key = q1 at *
        generalize tgK te key = k1 at *
        generalize hasB te key = hb1 at *
        obtain ⟨rk, rv, rg⟩ := q1
        clear ht hTT hlk y0
        go_wp2_with fail
        refine HTC.out.mono ?_
        rintro _ w5 ⟨rfl, hb5⟩
        have B6 := Bk.at_ w5 31 #[.string rk, .string rv, .bool rg] w5.heap.size rfl
        have e6 : Ext w5 (w5.alloc (.cells #[.string rk, .string rv, .bool rg] 31)) := (Ext.refl _).alloc _
        have P6 := (hbk.out.ext hb5).ext e6
        have e6w := (hbw.trans hb5).trans e6
        go_upto_region 6 with (fail)
        generalize w5.alloc (.cells #[.string rk, .string rv, .bool rg] 31) = W6 at *
        have r0 : W6.cell? ⟨w5.heap.size, 0, none⟩ = some (.string rk) := B6.cell 0
        have r1 : W6.cell? ⟨w5.heap.size, 1, none⟩ = some (.string rv) := B6.cell 1
        have r2 : W6.cell? ⟨w5.heap.size, 2, none⟩ = some (.bool rg) := B6.cell 2
        have p0 : W6.cell? ⟨pb, 0, none⟩ = some (.string qk) := P6.cell 0
        have p1 : W6.cell? ⟨pb, 1, none⟩ = some (.string qv) := P6.cell 1
        have p2 : W6.cell? ⟨pb, 2, none⟩ = some (.bool qg) := P6.cell 2
        have f0 := P6.frozen 0
        have f1 := P6.frozen 1
        have f2 := P6.frozen 2
        have hne : pb ≠ w5.heap.size := by have := (hbk.out.ext hb5).lt; omega
        have HP6 := Lib.hid P6
        clear P6 B6 y1 x2
        go_region
        all_goals
          go_wp2_with fail
          go_roundw
          case rel => exact ⟨i + 1, hb1, ⟨rk, rv, rg⟩, by rw [← hto], by go_num, by omega, by
            exact ((e6w.setCell (p := ⟨pb, 0, none⟩) hpw (.string rk)).setCell (p := ⟨pb, 1, none⟩) hpw (.string rv)).setCell (p := ⟨pb, 2, none⟩) hpw (.bool rg) |>.drew, ((((HP6.out.set_ 0 (.string rk)).set_ 1 (.string rv)).set_ 2 (.bool rg)).drew), HLN⟩
          case measure => simp [intOf]; omega
      · have hcI : ¬ (i : Int) < (n : Int) := by omega
        have hs := look_none hlk.out (by rw [← HT.out, List.length_map, HN.out]; omega)
        rw [HO.out] at hs
        have hv1 : ov = ⟨#[]⟩ := by rw [← HOV.out, hs]; rfl
        have hv2 : ok = 5 := by rw [← HOK.out, hs]; rfl
        subst hv1 hv2
        clear hs
        go_wp2_with fail
        go_ret2
        exact ⟨rfl, hbw⟩
end Go.Proofs.YtcgfdhgceokcnaaGreatDoor

/- lsm: All, Tables. -/
namespace Go.Proofs.YtcgfdhgceokcnaaGreatDoor
open Go.RowKit Go.WideShapes
set_option linter.unusedVariables false
attribute [local go_sem ↓] Go.wp_at_zero Go.wp_at_succ

theorem info_strT : (Tryz.prog.info? 9).map (fun i => (i.zero, i.size, i.bytes)) = some (some (.string ⟨#[]⟩), 1, 16) := by kernel_rfl
theorem own_row1 (w : World) (v : Value) (hv : v.oneCell' = true) : (w.alloc (.cells #[v] 32)).ownsRow w.heap.size 32 1 (.slice (some ⟨w.heap.size, 0, none⟩) 1 1) 1 [v] :=
  ⟨rfl, .inr ⟨w.heap.size, 1, #[v], rfl, Nat.le_refl _, Bk.at_ w _ _ w.heap.size rfl, Nat.le_refl _, by unfold maxLen; omega, rfl, rfl⟩⟩
theorem OwLs.cons {w : World} {vs : List Value} {T : List (List Pr)} (h : OwLs w vs T) {v : Value} {es : List Pr} {n : Nat} (hr : w.ownsRow 0 31 3 v n (es.flatMap Pr.cells)) (hn : es.length = n) : OwLs w (v :: vs) (es :: T) := by
  subst hn
  refine ⟨by rw [List.length_cons, List.length_cons, h.1], fun i u fs hv hT => ?_⟩
  cases i with
  | zero =>
    obtain rfl : v = u := by simpa using hv
    obtain rfl : es = fs := by simpa using hT
    exact hr
  | succ i => exact h.2 i u fs (by simpa using hv) (by simpa using hT)

set_option maxRecDepth 100000 in
set_option maxHeartbeats 2000000 in
theorem LAll_any (F : Nat → Prop) (x : Nat) (lim : Int) (Y : List Pr) (T : List (List Pr)) (w : World) (h : LM w F x lim Y T) (htot : totL (Y :: T) ≤ 1000) :
    Calls Tryz.prog 11 #[.pointer (some ⟨x, 0, none⟩)] w fun e w' => (∃ v', e = .returned v' ∧ w'.ownsRow w.heap.size 31 3 v' (liveL (Y :: T)).length ((liveL (Y :: T)).flatMap Pr.cells)) ∧ Ext w w' := by
  have HM := Lib.hid h
  have HTOT := Lib.hid htot
  have hT8 := h.many.2.1
  obtain ⟨sb, sv, lv, ts, hL, -, -, -⟩ := h
  have c1 : w.cell? ⟨x, 1, none⟩ = some (.pointer (some ⟨sb, 0, none⟩)) := hL.bk.cell 1
  have hc := SAll_any 0 sb sv Y w hL.st
  obtain ⟨yl, hyl⟩ : ∃ n, Y.length = n := ⟨_, rfl⟩
  rw [hyl] at hc
  have HYL := Lib.hid hyl
  have HC := Lib.hid hc
  clear hL htot hyl hc
  go_enter Tryz.func11, Tryz.ntmps11
  go_wp2_with fail
  refine HC.out.mono ?_
  rintro _ w1 ⟨⟨v1, rfl, o1⟩, hb1⟩
  obtain ⟨A1, c1', rfl, -, -, -⟩ := own_rd o1
  have e2 : Ext w1 (w1.alloc (.cells #[.slice A1 yl c1'] 32)) := (Ext.refl _).alloc _
  have O2 := Lib.hid (own_row1 w1 (.slice A1 yl c1') rfl)
  have HO1 := Lib.hid (own_ext (own_lower o1 (Nat.zero_le _)) e2)
  have e2w := hb1.trans e2
  have HLC := Lib.hid (lists_any F x lim Y T _ (HM.out.ext e2w))
  have hw1 := hb1.size
  clear o1 c1 HC
  go_wp2_with fail
  refine HLC.out.mono ?_
  rintro _ w3 ⟨⟨v3, vs, rfl, o3, R3⟩, hb3⟩
  have e3w := e2w.trans hb3
  have O3 := Lib.hid (own_ext O2.out hb3)
  have HO3 := Lib.hid (own_ext HO1.out hb3)
  have HR3 := Lib.hid R3
  obtain ⟨n, hn⟩ : ∃ n, T.length = n := ⟨_, rfl⟩
  rw [hn] at o3 hT8
  have HN := Lib.hid hn
  have HO33 := Lib.hid o3
  obtain ⟨A3, c3, hv3', hc3, hr3, hnil⟩ := own_rd o3
  have hlen : vs.length = n := by have := hr3.1; omega
  have hfin : ∀ (v9 : Value) (w9 : World), w9.ownsRow w1.heap.size 32 1 v9 (1 + n) ([.slice A1 yl c1'] ++ vs) → w3.grownBy w9 (Value.slice (some ⟨w1.heap.size, 0, none⟩) 1 1).ownBlock →
      ∃ A9 c9, v9 = .slice A9 (1 + n) c9 ∧ Ext w w9 ∧ Calls Tryz.prog 35 #[.slice A9 (1 + n) c9] w9 fun e w' => (∃ v', e = .returned v' ∧ w'.ownsRow w.heap.size 31 3 v' (liveL (Y :: T)).length ((liveL (Y :: T)).flatMap Pr.cells)) ∧ Ext w9 w' := fun v9 w9 h9 hg9 => by
    obtain ⟨A9, c9, rfl, hc9, hr9, -⟩ := own_rd h9
    have e9 := own_grown O3.out hg9 w hw1 e3w
    have R9 := (HR3.out.cons HO3.out HYL.out).grown O3.out hg9
    refine ⟨A9, c9, rfl, e9, (live_any A9 (1 + n) c9 _ (Y :: T) w9 hr9 hc9 R9.rd HTOT.out).mono ?_⟩
    rintro e w' ⟨⟨v', he, ho⟩, hb⟩
    exact ⟨⟨v', he, own_lower ho e9.size⟩, hb⟩
  have HFIN := Lib.hid hfin
  obtain ⟨i0, hi0, hz0, hzs, hzb⟩ := info_parts info_rowP
  have hb3s : w1.heap.size ≤ w3.heap.size := (e2.trans hb3).size
  have HV3 := Lib.hid hv3'
  clear hfin hn R3 HO1 O2 HLC o3 hv3'
  cases A3 with
  | none =>
    have h0 : n = 0 := by
      rcases Nat.eq_zero_or_pos n with h | h
      · exact h
      · obtain ⟨ad', h1, _⟩ := hr3.2.2 h
        cases h1
    subst h0
    obtain rfl : c3 = 0 := by
      rcases hnil rfl with h | h
      · exact h.2
      · exact absurd rfl h
    have hx0 : vs = [] := List.eq_nil_of_length_eq_zero hlen
    obtain ⟨A9, c9, h9, E9, HC9⟩ := HFIN.out _ w3 (by rw [hx0]; exact O3.out) ((Ext.refl w3).gb _)
    injection h9 with h9a h9b h9c
    subst h9a h9c
    have HC9' := Lib.hid HC9
    clear HC9 h9b hnil hr3 hx0
    go_wp2_with (at_builtin; go_loud (refine wpList_append_own_none rfl _ _ 22 rfl w1.heap.size 32 i0 1 Tryz.underlying22 hi0 _ _ _ rfl O3.out HV3.out ?_))
    refine HC9'.out.mono ?_
    rintro _ w10 ⟨⟨v10, rfl, ho⟩, hb10⟩
    have HO := Lib.hid ho
    clear ho
    go_wp2_with fail
    go_ret
    exact ⟨⟨_, rfl, HO.out⟩, E9.trans hb10⟩
  | some ad =>
    have hcl : ∀ (j : Nat) u, vs[j]? = some u → w3.cell? (ad.add j) = some u := fun j u hj => by
      obtain ⟨ad', he, -, h3⟩ := hr3.at_ hj
      obtain rfl : ad = ad' := by injection he
      exact h3
    have h1c : ∀ u ∈ vs, u.oneCell' = true := fun u hu => by
      obtain ⟨i, hi⟩ := List.getElem?_of_mem hu
      obtain ⟨es, hes⟩ : ∃ es, T[i]? = some es := ⟨_, List.getElem?_eq_getElem (by rw [← HR3.out.1]; exact (List.getElem?_eq_some_iff.1 hi).1)⟩
      obtain ⟨A, c, rfl, _, _⟩ := HR3.out.rd.2 i u es hi hes
      rfl
    have HCL := Lib.hid hcl
    have H1C := Lib.hid h1c
    have hl1 : vs.length = n * 1 := by omega
    clear hcl h1c hnil hr3 hlen
    go_wp2_with (at_builtin; go_loud (refine wpList_append_own _ rfl _ _ 22 rfl w1.heap.size 32 i0 _ 1 24 Tryz.underlying22 hi0 hz0 hzs hzb rfl (by omega) _ _ _ rfl O3.out ad n _ vs HV3.out hl1 HCL.out H1C.out (by unfold maxLen; omega) (by omega) hb3s ?_); intro v9 w9 own9 hg9 hH9; clear hH9; obtain ⟨A9, c9, rfl, E9, HC9⟩ := HFIN.out v9 w9 own9 hg9)
    refine HC9.mono ?_
    rintro _ w10 ⟨⟨v10, rfl, ho⟩, hb10⟩
    have HO := Lib.hid ho
    clear ho
    go_wp2_with fail
    go_ret
    exact ⟨⟨_, rfl, HO.out⟩, E9.trans hb10⟩

def tabV (es : List Pr) : Value := .string (tabB es)
set_option maxRecDepth 100000 in
set_option maxHeartbeats 2000000 in
theorem LTables_any (F : Nat → Prop) (x : Nat) (lim : Int) (Y : List Pr) (T : List (List Pr)) (w : World) (h : LM w F x lim Y T) :
    Calls Tryz.prog 20 #[.pointer (some ⟨x, 0, none⟩)] w fun e w' => (∃ v, e = .returned v ∧ w'.ownsRow w.heap.size 9 1 v T.length (T.map tabV)) ∧ Ext w w' := by
  obtain ⟨sb, sv, lv, ts, hL, rfl, -, -⟩ := h
  obtain ⟨n, hn⟩ : ∃ n, ts.length = n := ⟨_, rfl⟩
  have hn8 : n ≤ 8 := by rw [← hn]; exact hL.len
  have ow := hL.own
  rw [hn] at ow
  obtain ⟨A, c, rfl, hc, hr, -⟩ := own_rd ow
  have hnc := hr.2.1
  have c2 : w.cell? ⟨x, 2, none⟩ = some (.slice A n c) := hL.bk.cell 2
  have HN := Lib.hid hn
  have H0 : Hid (w.ownsRow w.heap.size 9 1 (.slice none 0 0) 0 (((ts.map Tb.es).take 0).map tabV)) := own_nil _ _ _ _
  clear ow hn hL
  rw [List.length_map, HN.out]
  unfold maxLen at hc
  go_enter Tryz.func20, Tryz.ntmps20
  go_wp2_with fail
  go_loopw [2, 4, 10] (fun o _ y wr => ∃ (i : Nat), y = .int .i64 i ∧ i ≤ n ∧ Ext w wr ∧ Hid (wr.ownsRow w.heap.size 9 1 o i (((ts.map Tb.es).take i).map tabV))) (fun _ _ y _ => n - (intOf y).toNat)
  case atStart => exact ⟨0, rfl, Nat.zero_le _, Ext.refl _, H0⟩
  case round =>
    obtain ⟨i, rfl, hi, hbw, hown⟩ := hrel
    by_cases hc3 : i < n
    · obtain ⟨t, ht⟩ : ∃ t, ts[i]? = some t := ⟨_, List.getElem?_eq_getElem (by rw [HN.out]; exact hc3)⟩
      obtain ⟨ad, rfl, hb, y0, y1⟩ := (hr.ext hbw).getT ht
      have HTT : Hid (((ts.map Tb.es).take (i + 1)).map tabV = ((ts.map Tb.es).take i).map tabV ++ [.string (tabB t.es)]) := by
        show _ = _
        have h1 : (ts.map Tb.es)[i]? = some t.es := by rw [List.getElem?_map, ht]; rfl
        obtain ⟨h2, h3⟩ := List.getElem?_eq_some_iff.1 h1
        rw [List.take_succ_eq_append_getElem h2, h3, List.map_append]; rfl
      obtain ⟨tb, tv, te⟩ := t
      simp only at y0 y1 HTT
      obtain ⟨bs, HBS⟩ : ∃ b, Hid (tabB te = b) := ⟨_, rfl⟩
      rw [HBS.out] at y0 HTT
      have B3 := Bk.at_ wr 89 #[.string bs, .pointer (some ⟨tb, 0, none⟩)] wr.heap.size rfl
      have e3 : Ext wr (wr.alloc (.cells #[.string bs, .pointer (some ⟨tb, 0, none⟩)] 89)) := (Ext.refl _).alloc _
      have z0 : (wr.alloc (.cells #[.string bs, .pointer (some ⟨tb, 0, none⟩)] 89)).cell? ⟨wr.heap.size, 0, none⟩ = some (.string bs) := B3.cell 0
      have O3 := Lib.hid (own_ext hown.out e3)
      have e3w := hbw.trans e3
      clear ht hown B3
      go_upto_region 4 with (fail)
      generalize wr.alloc (.cells #[.string bs, .pointer (some ⟨tb, 0, none⟩)] 89) = W3 at *
      have e5 : Ext W3 (W3.alloc (.cells #[.string bs] 9)) := (Ext.refl _).alloc _
      have O5 := Lib.hid (own_ext O3.out e5)
      have e5w := e3w.trans e5
      have hb5 := e5w.size
      obtain ⟨i0, hi0, hz0, hzs, hzb⟩ := info_parts info_strT
      clear O3
      go_wp2_with (at_builtin; go_loud (refine wpList_append_own _ rfl _ _ 48 rfl w.heap.size 9 i0 _ 1 16 Tryz.underlying48 hi0 hz0 hzs hzb rfl (by omega) u2 i _ rfl O5.out ⟨W3.heap.size, 0, none⟩ 1 1 [.string bs] (by rfl) rfl (news_new W3 _ _ _ rfl) (by intro u hu; simp at hu; subst hu; rfl) (by unfold maxLen; omega) (by omega) hb5 ?_); intro v6 w6 own6 hg6 hH6; clear hH6; have e6 := own_grown O5.out hg6 w (Nat.le_refl _) e5w)
      have R6 : Hid (w6.ownsRow w.heap.size 9 1 v6 (i + 1) (((ts.map Tb.es).take (i + 1)).map tabV)) := by
        show World.ownsRow _ _ _ _ _ _ _
        rw [HTT.out]; exact own6
      clear own6
      go_roundw
      case rel => exact ⟨i + 1, by go_num, by omega, e6, R6⟩
      case measure => simp [intOf]; omega
    · obtain rfl : i = n := by omega
      have HO := Lib.hid hown.out
      rw [List.take_of_length_le (by rw [List.length_map, HN.out]; exact Nat.le_refl _)] at HO
      clear hown
      go_wp2_with fail
      go_ret
      exact ⟨⟨_, rfl, HO.out⟩, hbw⟩
end Go.Proofs.YtcgfdhgceokcnaaGreatDoor

/- lsm: Copy. What is copied shares its tables. -/
namespace Go.Proofs.YtcgfdhgceokcnaaGreatDoor
open Go.RowKit Go.WideShapes
set_option linter.unusedVariables false
attribute [local go_sem ↓] Go.wp_at_zero Go.wp_at_succ

set_option maxRecDepth 100000 in
set_option maxHeartbeats 1000000 in
theorem CloneL_any (A : Option Addr) (n c : Nat) (xs : List Value) (w : World) (hr : Rd w 2 A n c xs) (hn : n ≤ 200000000) (hm : c ≤ maxLen) (h1 : ∀ u ∈ xs, u.oneCell' = true) :
    Calls Tryz.prog 90 #[.slice A n c] w fun e w' => (∃ v', e = .returned v' ∧ w'.ownsRow w.heap.size 89 2 v' n xs) ∧ Ext w w' := by
  obtain ⟨i0, hi0, hz0, hzs, hzb⟩ := info_parts info_level
  have q22 : ∀ (w : World) (a : Option Addr) (n c n' c' : Nat), (binOp .eql 80 (.slice a n c) (.slice none n' c')).run Tryz.prog w = .ok (.bool a.isNone) w := fun w a n c n' c' => Lib.run_eql_slice_nil w _ _ a n c n' c' Tryz.underlying80
  unfold maxLen at hm
  cases A with
  | none =>
    have : n = 0 := by
      rcases Nat.eq_zero_or_pos n with h | h
      · exact h
      · obtain ⟨ad, h1, _⟩ := hr.2.2 h; cases h1
    subst this
    have : xs = [] := List.eq_nil_of_length_eq_zero (by have := hr.1; omega)
    subst this
    go_enter Tryz.func90, Tryz.ntmps90
    go_wp2_with fail
    go_ret
    exact ⟨⟨_, rfl, own_nil _ _ _ _⟩, Ext.refl _⟩
  | some a =>
    have hl := hr.1
    have HC : Hid (∀ j u, xs[j]? = some u → w.cell? (a.add j) = some u) := Lib.hid fun j u hj => by
      have hp : 0 < n := by
        rcases Nat.eq_zero_or_pos n with h | h
        · subst h
          have := (List.getElem?_eq_some_iff.1 hj).1
          omega
        · exact h
      obtain ⟨ad, h1, h2, h3⟩ := hr.2.2 hp
      obtain rfl : a = ad := by injection h1
      exact h3 j u hj
    have H1 := Lib.hid h1
    clear hr h1
    have o0 : (w.alloc (.cells #[] 89)).ownsRow w.heap.size 89 2 (.slice (some ⟨w.heap.size, 0, none⟩) 0 0) 0 [] := World.ownsRow_made w #[] 0 (Nat.le_refl _) (Nat.zero_le _) (by simp)
    have hc0 : ∀ (j : Nat) u, xs[j]? = some u → (w.alloc (.cells #[] 89)).cell? (a.add j) = some u := fun j u hj => Lib.cell?_alloc_some _ (HC.out j u hj)
    have HC0 := Lib.hid hc0
    clear hc0
    have e0 : Ext w (w.alloc (.cells #[] 89)) := (Ext.refl _).alloc _
    have hb : w.heap.size ≤ (w.alloc (.cells #[] 89)).heap.size := e0.size
    go_enter Tryz.func90, Tryz.ntmps90
    go_wp2_with (at_builtin; refine wpList_append_own _ rfl _ _ 80 rfl w.heap.size 89 i0 _ 2 24 Tryz.underlying80 hi0 hz0 hzs hzb rfl (by omega) _ _ _ rfl o0 a n _ xs rfl hl HC0.out H1.out (by unfold maxLen; omega) (by omega) hb ?_; intro v' w6 own6 hg6 hH6)
    go_ret
    refine ⟨⟨v', rfl, ?_⟩, e0.gbn hg6 (Nat.le_refl _)⟩
    rw [Nat.zero_add, List.nil_append] at own6
    exact own6

/-- what is put behind all others -/
theorem store_next {es : List Pr} (ho : Asc es) {j : Nat} {p : Pr} (h : es[j]? = some p) (hj : j < 60) (hk : keyK p.key = 0) (hv : p.value.size ≤ 200) : storeL (es.take j) p = es.take (j + 1) := by
  obtain ⟨hlt, hge⟩ := List.getElem?_eq_some_iff.1 h
  have hl : (es.take j).length = j := by rw [List.length_take]; omega
  have hlow : lowN (es.take j) p.key = j := by
    refine (lowN_border (es := es.take j) (by rw [hl]; exact Nat.le_refl _) ?_ ?_)
    · intro t q ht hq
      rw [List.getElem?_take_of_lt ht] at hq
      exact ho t j q p hq h ht
    · intro t q ht hq
      rw [List.getElem?_eq_none (by rw [hl]; exact ht)] at hq
      cases hq
  have hhas : hasB (es.take j) p.key = false := by
    unfold hasB
    rw [hlow, List.getElem?_eq_none (by rw [hl]; exact Nat.le_refl _)]
  have hpk : putK (es.take j) p = 0 := by
    unfold putK
    rw [if_neg (not_not_intro hk), if_neg]
    rintro (h1 | ⟨_, h1⟩)
    · omega
    · rw [hl] at h1; omega
  unfold storeL
  rw [if_pos hpk]
  unfold putL
  rw [hhas, if_neg (by decide), hlow]
  unfold insL
  rw [List.take_of_length_le (by rw [hl]; exact Nat.le_refl _), List.drop_of_length_le (by rw [hl]; exact Nat.le_refl _), List.take_succ_eq_append_getElem hlt, hge]

abbrev aF : Nat → Prop := fun _ => True
section
variable {w0 w w' : World} {F F' H H' : Nat → Prop} {x : Nat} {lim : Int} {Y : List Pr} {T : List (List Pr)}
theorem LMH.any (h : LMH w F H x lim Y T) : LMH w aF H x lim Y T := by
  obtain ⟨sb, sv, lv, ts, hL, hT, hF, hH⟩ := h
  exact ⟨sb, sv, lv, ts, hL, hT, fun _ _ => trivial, hH⟩
theorem LMH.weak (h : LMH w F H x lim Y T) (hn : ∀ g, H' g → H g) : LMH w F H' x lim Y T := by
  obtain ⟨sb, sv, lv, ts, hL, hT, hF, hH⟩ := h
  exact ⟨sb, sv, lv, ts, hL, hT, hF, fun g hg h1 => hH g hg (hn g h1)⟩
/-- what is new is held too -/
theorem LMH.hold (h : LMH w F H x lim Y T) (k : Ext w w') (hn : ∀ g, H' g → H g ∨ w.heap.size ≤ g) : LMH w' F H' x lim Y T := by
  obtain ⟨sb, sv, lv, ts, hL, hT, hF, hH⟩ := h
  refine ⟨sb, sv, lv, ts, hL.ext k, hT, hF, fun g hg h1 => ?_⟩
  rcases hn g h1 with h2 | h2
  · exact hH g hg h2
  · have := hL.lt (LOwn.foot (ts := ts) hg)
    omega
/-- what is held is kept -/
theorem LOH.held (h : LOH w w' F H x lim Y T F') (e : Ext w0 w) (hH : ∀ g, g < w0.heap.size → H g) : Ext w0 w' :=
  ((e.chg _).trans h.chg fun g _ hg => hg).ext fun g hg hS => hS.2 (hH g hg)
end

set_option maxRecDepth 100000 in
set_option maxHeartbeats 4000000 in
/-- Copy: what it makes writes new blocks alone -/
theorem LCopy_any (x : Nat) (lim : Int) (Y : List Pr) (T : List (List Pr)) (w : World) (h : LM w aF x lim Y T) :
    Calls Tryz.prog 61 #[.pointer (some ⟨x, 0, none⟩)] w fun e w' => (∃ x', e = .returned (.pointer (some ⟨x', 0, none⟩)) ∧ LMH w' aF (fun g => g < w.heap.size) x' lim Y T) ∧ Ext w w' := by
  have hs2 := h.many
  obtain ⟨sb, sv, lv, ts, hL, hT, hF, hH⟩ := h
  obtain ⟨n, hn⟩ : ∃ n, ts.length = n := ⟨_, rfl⟩
  have hn8 : n ≤ 8 := by rw [← hn]; exact hL.len
  have ow := hL.own
  rw [hn] at ow
  obtain ⟨A, c, rfl, hc, hr, -⟩ := own_rd ow
  have c0 : w.cell? ⟨x, 0, none⟩ = some (.int .i64 lim) := hL.bk.cell 0
  have c2 : w.cell? ⟨x, 2, none⟩ = some (.slice A n c) := hL.bk.cell 2
  have HCL := Lib.hid fun W (e : Ext w W) => CloneL_any A n c (ts.flatMap Tb.cells) W (hr.ext e) (by omega) hc (by
    intro u hu
    rw [List.mem_flatMap] at hu
    obtain ⟨t, _, hu⟩ := hu
    simp [Tb.cells] at hu
    rcases hu with rfl | rfl <;> rfl)
  have HL := Lib.hid hL
  have HT := Lib.hid hT
  have HN := Lib.hid hn
  obtain ⟨y, hy⟩ : ∃ y, Y.length = y := ⟨_, rfl⟩
  have HY := Lib.hid hy
  have hy60 : y ≤ 60 := by rw [← hy]; exact hs2.1
  have HASC := Lib.hid hs2.2.2.hd.1
  have HOK := Lib.hid hs2.2.2.hd.2
  have H0 : Hid (∀ (w' : World) (x' sb' : Nat) (lv' : Value), Ext w w' → Bk w' x' 82 #[.int .i64 lim, .pointer (some ⟨sb', 0, none⟩), lv'] → StAt w' 0 sb' (.slice none 0 0) [] → w'.ownsRow w.heap.size 89 2 lv' n (ts.flatMap Tb.cells) → w.heap.size ≤ x' → w.heap.size ≤ sb' → LMH w' aF (fun g => g < w.heap.size) x' lim [] T) := Lib.hid fun w' x' sb' lv' e hb hst ho h1 h2 => by
    have hlv : ∀ g, lv'.ownBlock = some g → w.heap.size ≤ g := fun g hg => own_block ho g hg
    have L' := HL.out.ext e
    have hLA : LAt w' x' lim sb' (.slice none 0 0) [] lv' ts := ⟨hb, hst, by rw [HN.out]; exact own_lower ho (Nat.zero_le _), L'.tab, fun t ht g hg hg' => by simp [Value.ownBlock] at hg', L'.len⟩
    refine ⟨sb', .slice none 0 0, lv', ts, hLA, HT.out, fun g hg => trivial, fun g hg hlt => ?_⟩
    rcases hg with rfl | rfl | hg | hg
    · exact absurd hlt (by show ¬ _ < _; omega)
    · exact absurd hlt (by show ¬ _ < _; omega)
    · simp [Value.ownBlock] at hg
    · have := hlv g hg
      have h3 : g < w.heap.size := hlt
      omega
  clear ow hr hT hF hn hs2 hy hH hL
  unfold maxLen at hc
  go_enter Tryz.func61, Tryz.ntmps61
  go_upto_region 1 with (fail)
  go_cut [3] (fun v wc => ∃ x', v = .pointer (some ⟨x', 0, none⟩) ∧ Hid (LMH wc aF (fun g => g < w.heap.size) x' lim [] T) ∧ Ext w wc)
  case first =>
    as_aux_lemma =>
    go_region_held3 (fun W => W.cell? ⟨x, 0, none⟩ = some (.int .i64 lim) ∧ W.cell? ⟨x, 2, none⟩ = some (.slice A n c)) (first | exact ⟨c0, c2⟩ | exact ⟨(HL.out.ext (by (repeat (with_reducible first | exact Ext.refl _ | assumption | refine Ext.drew ?_ | refine Ext.drewN ?_ _ | refine Ext.alloc ?_ _ | refine Ext.trans ?_ (by with_reducible assumption))))).bk.cell 0, (HL.out.ext (by (repeat (with_reducible first | exact Ext.refl _ | assumption | refine Ext.drew ?_ | refine Ext.drewN ?_ _ | refine Ext.alloc ?_ _ | refine Ext.trans ?_ (by with_reducible assumption))))).bk.cell 2⟩) (first
      | (go_at_call 60; (with_reducible refine (SNew_any 0 _ (Nat.zero_le _)).mono ?_); rintro _ w7 ⟨rfl, st7, hb7⟩; have ST7 := Lib.hid st7; clear st7)
      | (go_at_call 90; (with_reducible refine (HCL.out _ (by (repeat (with_reducible first | exact Ext.refl _ | assumption | refine Ext.drew ?_ | refine Ext.drewN ?_ _ | refine Ext.alloc ?_ _ | refine Ext.trans ?_ (by with_reducible assumption))))).mono ?_); rintro _ w6 ⟨⟨v6, rfl, o6⟩, hb6⟩; obtain ⟨A6, c6, rfl, -, -, -⟩ := own_rd o6; have O6 := Lib.hid o6; clear o6)
      | fail)
    all_goals
      go_wp2_with fail
      go_meet
      refine ⟨_, rfl, Lib.hid (H0.out _ _ _ _ (by (repeat (with_reducible first | exact Ext.refl _ | assumption | refine Ext.drew ?_ | refine Ext.drewN ?_ _ | refine Ext.alloc ?_ _ | refine Ext.trans ?_ (by with_reducible assumption)))) (Bk.at_ _ _ _ _ rfl) (ST7.out.ext (by (repeat (with_reducible first | exact Ext.refl _ | assumption | refine Ext.drew ?_ | refine Ext.drewN ?_ _ | refine Ext.alloc ?_ _ | refine Ext.trans ?_ (by with_reducible assumption))))) (own_ext (own_lower O6.out (Ext.size (by (repeat (with_reducible first | exact Ext.refl _ | assumption | refine Ext.drew ?_ | refine Ext.drewN ?_ _ | refine Ext.alloc ?_ _ | refine Ext.trans ?_ (by with_reducible assumption)))))) (by (repeat (with_reducible first | exact Ext.refl _ | assumption | refine Ext.drew ?_ | refine Ext.drewN ?_ _ | refine Ext.alloc ?_ _ | refine Ext.trans ?_ (by with_reducible assumption))))) (Ext.size (by (repeat (with_reducible first | exact Ext.refl _ | assumption | refine Ext.drew ?_ | refine Ext.drewN ?_ _ | refine Ext.alloc ?_ _ | refine Ext.trans ?_ (by with_reducible assumption))))) (Ext.size (by (repeat (with_reducible first | exact Ext.refl _ | assumption | refine Ext.drew ?_ | refine Ext.drewN ?_ _ | refine Ext.alloc ?_ _ | refine Ext.trans ?_ (by with_reducible assumption)))))), by (repeat (with_reducible first | exact Ext.refl _ | assumption | refine Ext.drew ?_ | refine Ext.drewN ?_ _ | refine Ext.alloc ?_ _ | refine Ext.trans ?_ (by with_reducible assumption)))⟩
  case rest =>
  as_aux_lemma =>
  obtain ⟨x', rfl, HX, hbc⟩ := hcut
  obtain ⟨sb2, HY2⟩ : ∃ sb2 : Nat, Hid (sb2 = sb) := ⟨sb, Lib.hid rfl⟩
  have s1 : wc.cell? ⟨x, 1, none⟩ = some (.pointer (some ⟨sb, 0, none⟩)) := (HL.out.ext hbc).bk.cell 1
  have HSA := Lib.hid (SAll_any 0 sb sv Y wc (HL.out.ext hbc).st)
  clear c0 c2
  go_wp2_with fail
  refine HSA.out.mono ?_
  rw [HY.out]
  rintro _ w8 ⟨⟨v8, rfl, o8⟩, hb8⟩
  obtain ⟨A8, c8, rfl, hc8, hr8, -⟩ := own_rd o8
  have hX8 : Hid (LMH w8 aF (fun g => g < w.heap.size ∨ (Value.slice A8 y c8).ownBlock = some g) x' lim (Y.take 0) T) := Lib.hid (HX.out.hold hb8 fun g hg => by
    rcases hg with hg | hg
    · exact .inl hg
    · exact .inr (own_block o8 g hg))
  have O8 := Lib.hid (own_lower o8 (Nat.zero_le _))
  have e8 := hbc.trans hb8
  have hc8' := hc8
  unfold maxLen at hc8'
  have HC8 := Lib.hid hc8
  clear s1 o8 hr8 hc8
  go_wp2_with fail
  go_loopw [5, 24] (fun _ u wr => ∃ j : Nat, u = .int .i64 j ∧ j ≤ y ∧ Ext w wr ∧ Hid (wr.ownsRow 0 31 3 (.slice A8 y c8) y (Y.flatMap Pr.cells)) ∧ Hid (LMH wr aF (fun g => g < w.heap.size ∨ (Value.slice A8 y c8).ownBlock = some g) x' lim (Y.take j) T)) (fun _ u _ => y - (intOf u).toNat)
  case atStart => exact ⟨0, rfl, Nat.zero_le _, e8, O8, hX8⟩
  case round =>
    obtain ⟨j, rfl, hj, hbw, hrow, hlm⟩ := hrel
    by_cases hcj : j < y
    · obtain ⟨p, hp⟩ : ∃ p, Y[j]? = some p := ⟨_, List.getElem?_eq_getElem (by rw [HY.out]; exact hcj)⟩
      obtain ⟨A9, c9, h9, -, hr9, -⟩ := own_rd hrow.out
      injection h9 with h91 h92 h93
      subst h91 h93
      obtain ⟨ad1, rfl, hb1, y0, y1, y2⟩ := hr9.getP hp
      have hok := HOK.out p (List.mem_of_getElem? hp)
      have HST := Lib.hid (store_next HASC.out hp (by omega) hok.1 hok.2.1)
      have HPC : Hid (∀ W, Ext wr W → Calls Tryz.prog 91 #[.pointer (some ⟨x', 0, none⟩), p.val] W fun e w' => e = .returned (errR (putK (Y.take j) p)) ∧ ∃ F', LOH W w' aF (fun g => g < w.heap.size ∨ (Value.slice (some ad1) y c8).ownBlock = some g) x' lim (storeL (Y.take j) p) T F') := Lib.hid fun W e => lputH_any _ _ x' lim _ T p W (hlm.out.ext e) (fun g hg => by
        have h1 := hbw.size
        have h2 := e.size
        rcases hg with hg | hg
        · have h3 : g < w.heap.size := hg
          omega
        · have := (hrow.out.lt g hg).2
          omega) hok.2.2
      obtain ⟨pk, pv, pg⟩ := p
      simp only at y0 y1 y2
      have P3 := Bk.at_ wr 31 #[.string pk, .string pv, .bool pg] wr.heap.size rfl
      have e3r : Ext wr (wr.alloc (.cells #[.string pk, .string pv, .bool pg] 31)) := (Ext.refl _).alloc _
      have z0 : (wr.alloc (.cells #[.string pk, .string pv, .bool pg] 31)).cell? ⟨wr.heap.size, 0, none⟩ = some (.string pk) := P3.cell 0
      have z1 : (wr.alloc (.cells #[.string pk, .string pv, .bool pg] 31)).cell? ⟨wr.heap.size, 1, none⟩ = some (.string pv) := P3.cell 1
      have z2 : (wr.alloc (.cells #[.string pk, .string pv, .bool pg] 31)).cell? ⟨wr.heap.size, 2, none⟩ = some (.bool pg) := P3.cell 2
      have HC := Lib.hid (HPC.out _ e3r)
      clear hp hok hr9 HPC P3
      go_upto_region 5 with (fail)
      generalize wr.alloc (.cells #[.string pk, .string pv, .bool pg] 31) = W3 at *
      go_wp2_with fail
      refine HC.out.mono ?_
      rintro _ w4 ⟨rfl, F4, hop⟩
      rw [HST.out] at hop
      have e4 := hop.held (hbw.trans e3r) (fun g hg => .inl hg)
      have O4 : Hid (w4.ownsRow 0 31 3 (.slice (some ad1) y c8) y (Y.flatMap Pr.cells)) := Lib.hid (own_chg (own_ext hrow.out e3r) hop.chg fun g hg hS => hS.2 (.inr hg))
      have L4 := Lib.hid hop.at_.any
      clear hop
      go_wp2_with fail
      go_roundw
      case rel => exact ⟨j + 1, by go_num, by omega, e4, O4, L4⟩
      case measure => simp [intOf]; omega
    · obtain rfl : j = y := by omega
      have HF := Lib.hid hlm.out
      rw [List.take_of_length_le (by rw [HY.out]; exact Nat.le_refl _)] at HF
      clear hlm
      go_wp2_with fail
      go_ret
      exact ⟨⟨x', rfl, HF.out.weak fun g hg => .inl hg⟩, hbw⟩
end Go.Proofs.YtcgfdhgceokcnaaGreatDoor
