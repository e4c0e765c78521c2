import Derived.Test.YtnafegofmbhahaaDoorLsm11
import Derived.Test.YtnafegofmbhahaaDoorLettW
import Derived.Test.YtnafegofmbhahaaDoorError
import Derived.Deep.DeepCutAuto
import Derived.Deep.CutRange
namespace Go.Proofs.YtnafegofmbhahaaDoor.lsmMerges
open Go.RowKit Go.WideShapes
set_option linter.unusedVariables false
attribute [local go_sem ↓] Go.wp_at_zero Go.wp_at_succ

def vV : ByteArray := ⟨#[118]⟩
theorem lett_key (i : Nat) : keyK (lett i) = 0 := keyK_ok (by rw [lett_size]; omega) (by rw [lett_size]; omega)
theorem put_zero {Y : List Pr} {lim i : Nat} {v : ByteArray} {g : Bool} (hy : Y.length < lim) (hl : lim ≤ 60) (hv : v.size ≤ 200) : putK Y ⟨lett i, v, g⟩ = 0 := by
  unfold putK
  rw [if_neg (not_not_intro (lett_key i)), if_neg]
  rintro (h1 | ⟨_, h1⟩)
  · simp only at h1; omega
  · omega
/-- i keys were put -/
structure I1 (lim i : Nat) (Y : List Pr) (T : List (List Pr)) : Prop where
  young : Y.length < lim
  tot : totL (Y :: T) ≤ i
  nil : i = 0 → Y = [] ∧ T = []
  see : ∀ key, seeL Y T key = vis (getE (lettP vV i) key)
theorem i1_zero {lim : Nat} (h : 1 ≤ lim) : I1 lim 0 [] [] := ⟨h, Nat.le_refl _, fun _ => ⟨rfl, rfl⟩, fun key => rfl⟩
theorem i1_step {lim i : Nat} {Y : List Pr} {T : List (List Pr)} (h : I1 lim i Y T) (hl : lim ≤ 60) (hi : i ≤ 99) (hok : LsOk (Y :: T)) : I1 lim (i + 1) (doY lim Y ⟨lett i, vV, false⟩) (doT lim Y T ⟨lett i, vV, false⟩) := by
  have hk : putK Y ⟨lett i, vV, false⟩ = 0 := put_zero h.young hl (by decide)
  refine ⟨do_young h.young, ?_, fun e => by omega, fun key => ?_⟩
  · have := do_tot lim Y T ⟨lett i, vV, false⟩
    have := h.tot
    omega
  · rw [see_do hok (fun e => by cases e) hk, ← lettP_put vV hi, get_put (lettP_asc vV (by omega)), h.see]
    split <;> rfl
theorem see_flushed {lim n : Nat} {Y : List Pr} {T : List (List Pr)} (h : I1 lim n Y T) (hok : LsOk (Y :: T)) (key : ByteArray) : vis (lookLs (flT Y T) key) = vis (getE (lettP vV n) key) := by
  have h1 := see_fl hok key
  rw [h.see] at h1
  rw [← h1]
  rfl
theorem lett_live {n : Nat} : ∀ p ∈ lettP vV n, p.gone = false := fun p hp => by
  obtain ⟨i, hi⟩ := List.getElem?_of_mem hp
  obtain ⟨_, rfl⟩ := lettP_some hi
  rfl
theorem merged {lim n : Nat} {Y : List Pr} {T : List (List Pr)} (h : I1 lim n Y T) (hok : LsOk (Y :: T)) (h0 : 0 < n) (hn : n ≤ 100) : mergeT (flT Y T) = [lettP vV n] ∧ (flT Y T).length ≠ 0 := by
  have hfo : LsOk (flT Y T) := (fl_ok hok).tl
  have hl : liveL (flT Y T) = lettP vV n := live_ext (live_asc _) (lettP_asc vV hn) live_gone lett_live fun key => by
    rw [live_get hfo.asc, vis_filter, see_flushed h hok]
  refine ⟨?_, fun e => ?_⟩
  · unfold mergeT
    rw [hl, if_neg]
    intro e
    have := lettP_len vV n
    rw [e] at this
    simp at this
    omega
  · rw [List.length_eq_zero_iff.1 e] at hl
    have := lettP_len vV n
    rw [← hl] at this
    have h2 : (liveL ([] : List (List Pr))).length = 0 := rfl
    omega
theorem nothing {lim : Nat} {Y : List Pr} {T : List (List Pr)} (h : I1 lim 0 Y T) : (flT Y T).length = 0 := by
  obtain ⟨rfl, rfl⟩ := h.nil rfl
  rfl
theorem all_live {n : Nat} (hn : n ≤ 100) : (liveL ([] :: [lettP vV n])).length = n := by
  have hok : LsOk ([] :: [lettP vV n]) := LsOk.cons nil_ok (LsOk.cons ⟨lettP_asc vV hn, lettP_ok (by decide) n⟩ LsOk.nil)
  have hl : liveL ([] :: [lettP vV n]) = lettP vV n := live_ext (live_asc _) (lettP_asc vV hn) live_gone lett_live fun key => by
    rw [live_get hok.asc, vis_filter]
    show vis ((none : Option Pr).or ((getE (lettP vV n) key).or none)) = _
    rw [Option.none_or, Option.or_none]
  rw [hl, lettP_len]
def dropV (n : Nat) : Nat → ByteArray → Option ByteArray
  | 0, key => vis (getE (lettP vV n) key)
  | i + 1, key => if lett i = key then none else dropV n i key
theorem dropV_gone (n : Nat) : ∀ (i j : Nat), j < i → dropV n i (lett j) = none
  | 0, j, h => by omega
  | i + 1, j, h => by
    unfold dropV
    by_cases e : lett i = lett j
    · rw [if_pos e]
    · rw [if_neg e]
      refine dropV_gone n i j ?_
      rcases Nat.lt_or_eq_of_le (Nat.le_of_lt_succ h) with h | rfl
      · exact h
      · exact absurd rfl e
theorem dropV_none (n : Nat) (key : ByteArray) (h : getE (lettP vV n) key = none) : ∀ i, dropV n i key = none
  | 0 => by unfold dropV; rw [h]; rfl
  | i + 1 => by
    unfold dropV
    rw [dropV_none n key h i]
    split <;> rfl
theorem dropV_all {n : Nat} (hn : n ≤ 100) (key : ByteArray) : dropV n n key = none := by
  cases hg : getE (lettP vV n) key with
  | none => exact dropV_none n key hg n
  | some p =>
    obtain ⟨i, hi, hk⟩ := (getE_iff (lettP_asc vV hn)).1 hg
    obtain ⟨h1, rfl⟩ := lettP_some hi
    rw [← hk]
    exact dropV_gone n n i h1
/-- i of n keys were dropped -/
structure I2 (lim n i : Nat) (Y : List Pr) (T : List (List Pr)) : Prop where
  young : Y.length < lim
  tot : totL (Y :: T) ≤ n + i
  some : 1 ≤ T.length
  see : ∀ key, seeL Y T key = dropV n i key
theorem i2_zero {lim n : Nat} (h : 1 ≤ lim) (hn : n ≤ 100) : I2 lim n 0 [] [lettP vV n] := ⟨h, by rw [totL_cons, totL_cons, totL_nil, lettP_len]; simp, Nat.le_refl _, fun key => by
  show vis ((none : Option Pr).or ((getE (lettP vV n) key).or none)) = _
  rw [Option.none_or, Option.or_none]; rfl⟩
theorem do_some {lim : Nat} {Y : List Pr} {T : List (List Pr)} {p : Pr} (h : 1 ≤ T.length) : 1 ≤ (doT lim Y T p).length := by
  unfold doT
  split
  · rw [List.length_cons]; omega
  · exact h
theorem fl_some {Y : List Pr} {T : List (List Pr)} (h : 1 ≤ T.length) : (flT Y T).length ≠ 0 := by
  unfold flT
  split
  · omega
  · rw [List.length_cons]; omega
theorem i2_step {lim n i : Nat} {Y : List Pr} {T : List (List Pr)} (h : I2 lim n i Y T) (hl : lim ≤ 60) (hok : LsOk (Y :: T)) : I2 lim n (i + 1) (doY lim Y ⟨lett i, ⟨#[]⟩, true⟩) (doT lim Y T ⟨lett i, ⟨#[]⟩, true⟩) := by
  have hk : putK Y ⟨lett i, ⟨#[]⟩, true⟩ = 0 := put_zero h.young hl (by decide)
  refine ⟨do_young h.young, ?_, do_some h.some, fun key => ?_⟩
  · have := do_tot lim Y T ⟨lett i, ⟨#[]⟩, true⟩
    have := h.tot
    omega
  · rw [see_do hok (fun e => rfl) hk, h.see]
    rfl
theorem emptied {lim n : Nat} {Y : List Pr} {T : List (List Pr)} (h : I2 lim n n Y T) (hok : LsOk (Y :: T)) (hn : n ≤ 100) : mergeT (flT Y T) = [] := by
  have hfo : LsOk (flT Y T) := (fl_ok hok).tl
  have hl : liveL (flT Y T) = [] := live_ext (live_asc _) Asc.nil live_gone (fun p hp => by simp at hp) fun key => by
    rw [live_get hfo.asc, vis_filter]
    have h1 := see_fl hok key
    rw [h.see, dropV_all hn] at h1
    exact h1
  unfold mergeT
  rw [if_pos hl]

set_option maxRecDepth 100000 in
set_option maxHeartbeats 2000000 in
theorem walk (n0 lim0 : Int) (w : World) (z0 : (Lit.int IntKind.i64 n0).wf = true) (z1 : (Lit.int IntKind.i64 lim0).wf = true) (hg : ErrG w) :
    Calls Tryd.prog 8 #[.int .i64 n0, .int .i64 lim0] w fun e w' => e = .returned (.bool true) ∧ Ext w w' := by
  obtain ⟨hE, hN, hG⟩ := errR_rules
  have hok1 : isOk 1 = false := rfl
  go_enter Tryd.func8, Tryd.ntmps8
  go_wp2_with fail
  refine (LNew_any lim0 w).mono ?_
  rintro e w1 (⟨hbad, rfl, rfl⟩ | ⟨⟨hl1, hl60⟩, x, F, rfl, hL, hF, e1⟩)
  · rcases hbad with h | h
    · go_wp2_with fail
      go_ret
      exact ⟨rfl, Ext.refl _⟩
    · have h2 : ¬ lim0 < 1 := by omega
      go_wp2_with fail
      go_ret
      exact ⟨rfl, Ext.refl _⟩
  · obtain ⟨lim, rfl⟩ : ∃ lim : Nat, lim0 = (lim : Int) := ⟨lim0.toNat, by omega⟩
    by_cases hn : 0 ≤ n0 ∧ n0 ≤ 100
    · obtain ⟨n, rfl⟩ : ∃ n : Nat, n0 = (n : Int) := ⟨n0.toNat, by omega⟩
      have hn100 : n ≤ 100 := by omega
      have hnI : (n : Int) ≤ 100 := by omega
      have hlm1 : 1 ≤ lim := by omega
      have hlm60 : lim ≤ 60 := by omega
      have HL := Lib.hid hL
      have HF := Lib.hid hF
      have HI := Lib.hid (i1_zero hlm1)
      clear hL hF hn hl1 hl60 z0 z1
      go_wp2_with fail
      go_loopw [7] (fun v wr => ∃ (i : Nat) (F : Nat → Prop) (Y : List Pr) (T : List (List Pr)), v = .int .i64 i ∧ i ≤ n ∧ Ext w wr ∧ Hid (LM wr F x lim Y T) ∧ Hid (∀ g, F g → w.heap.size ≤ g) ∧ Hid (I1 lim i Y T)) (fun v _ => n - (intOf v).toNat)
      case atStart => exact ⟨0, F, [], [], rfl, Nat.zero_le _, e1, HL, HF, HI⟩
      case round =>
        clear HL HF HI
        obtain ⟨i, F1, Y, T, rfl, hi, hbw, HL, HF, HI⟩ := hrel
        have HOK := Lib.hid HL.out.many.2.2
        by_cases hc : i < n
        · have hci : (i : Int) < (n : Int) := by omega
          go_wp2_with fail
          refine (Lett_any i _ (by omega)).mono ?_
          rintro _ w2 ⟨rfl, hb2⟩
          have e2 := hbw.trans hb2
          have HC := Lib.hid (LPut_any F1 x lim Y T (lett i) vV w2 (HL.out.ext hb2) (by have := HI.out.tot; rw [totL_cons] at this; omega) hlm1)
          rw [put_zero HI.out.young hlm60 (by decide), errR_0] at HC
          go_wp2_with fail
          refine HC.out.mono ?_
          rintro _ w3 ⟨rfl, F3, hop⟩
          obtain ⟨e3, hF3⟩ := hop.keep e2 HF.out
          have HL3 := Lib.hid hop.at_
          have HF3 := Lib.hid hF3
          have HI3 := Lib.hid (i1_step HI.out hlm60 (by omega) HOK.out)
          clear hop hF3 hb2
          go_wp2_with fail
          go_roundw
          case rel => exact ⟨i + 1, F3, _, _, by go_num, by omega, e3, HL3, HF3, HI3⟩
          case measure => simp [intOf]; omega
        · obtain rfl : i = n := by omega
          have hci : ¬ (i : Int) < (i : Int) := by omega
          have htot : totL T ≤ 1000 := by have := HI.out.tot; rw [totL_cons] at this; omega
          have HTOT := Lib.hid htot
          have htot2 : totL (flY Y :: flT Y T) ≤ i := Nat.le_trans (fl_tot Y T) HI.out.tot
          have HTOT2 := Lib.hid htot2
          have HLM := Lib.hid HL.out.many
          clear htot htot2 hc hi
          go_upto_region 9 with (fail)
          go_cut [55] from 48 to 55 (fun v wc => v = .bool false ∧ ∃ F2, LOp wr wc F1 x lim [] (flT Y T) F2)
          case first =>
            as_aux_lemma =>
            go_wp2_with fail
            refine (LYoung_any F1 x lim Y T wr HL.out).mono ?_
            rintro _ _ ⟨rfl, rfl⟩
            by_cases hy : Y.length = 0
            · have hy0 : ¬ (0 : Int) < (Y.length : Int) := by omega
              have hY : Y = [] := List.length_eq_zero_iff.1 hy
              have hT : flT Y T = T := flT_nil hy
              have HOP : Hid (LOp wr wr F1 x lim [] (flT Y T) F1) := Lib.hid (by
                rw [hT]
                have := HL.out.op (Ext.refl wr)
                rwa [hY] at this)
              clear hY hT
              generalize Y.length = yl at *
              go_wp2_with fail
              go_meet
              exact ⟨rfl, F1, HOP.out⟩
            · have hy0 : (0 : Int) < (Y.length : Int) := by omega
              have HC := Lib.hid (LFlush_any F1 x lim Y T wr HL.out HTOT.out)
              rw [show flK Y = 0 from if_neg hy, errR_0] at HC
              generalize hyl : Y.length = yl at *
              clear hyl
              go_wp2_with fail
              refine HC.out.mono ?_
              rintro _ w2 ⟨rfl, F2, hop⟩
              have HOP := Lib.hid hop
              clear hop
              go_wp2_with fail
              go_meet
              exact ⟨rfl, F2, HOP.out⟩
          case rest =>
          as_aux_lemma =>
          obtain ⟨rfl, F2, hop⟩ := hcut
          obtain ⟨e2, hF2⟩ := hop.keep hbw HF.out
          have HC := Lib.hid (LMerge_any F2 x lim [] (flT Y T) _ hop.at_ (by have := HTOT2.out; rw [totL_cons] at this; omega))
          have HF2 := Lib.hid hF2
          clear hop hF2
          by_cases h0 : i = 0
          · subst h0
            rw [show mgK (flT Y T) = 6 from if_pos (nothing HI.out)] at HC
            go_wp2_with fail
            refine HC.out.mono ?_
            rintro _ w3 ⟨rfl, F3, hop⟩
            have e3 := (hop.keep e2 HF2.out).1
            clear hop
            go_wp2_with fail
            refine (Error_is 6 _ (hg.ext e3)).mono ?_
            rintro _ w4 ⟨rfl, hb4⟩
            go_wp2_with fail
            go_ret
            exact ⟨rfl, e3.trans hb4⟩
          · have h0i : ¬ (i : Int) = 0 := by omega
            obtain ⟨hm1, hm2⟩ := merged HI.out HOK.out (by omega) hn100
            rw [show mgK (flT Y T) = 0 from if_neg hm2, errR_0, hm1] at HC
            clear hm1 hm2 h0
            go_wp2_with fail
            refine HC.out.mono ?_
            rintro _ w3 ⟨rfl, F3, hop⟩
            obtain ⟨e3, hF3⟩ := hop.keep e2 HF2.out
            have HL3 := Lib.hid hop.at_
            have HF3 := Lib.hid hF3
            clear hop hF3 HC
            go_wp2_with fail
            refine (LTables_any F3 x lim [] _ w3 HL3.out).mono ?_
            rintro _ w4 ⟨⟨v4, rfl, o4⟩, hb4⟩
            obtain ⟨A4, c4, rfl, -, -, -⟩ := own_rd o4
            have e4 := e3.trans hb4
            have HL4 := Lib.hid (HL3.out.ext hb4)
            have ht4 : totL ([] :: [lettP vV i]) ≤ 1000 := by rw [totL_cons, totL_cons, totL_nil, lettP_len]; simp; omega
            have HA := Lib.hid (LAll_any F3 x lim [] _ w4 HL4.out ht4)
            rw [all_live hn100] at HA
            have hl1 : [lettP vV i].length = 1 := rfl
            rw [hl1]
            clear o4 ht4 hl1
            go_wp2_with fail
            refine HA.out.mono ?_
            rintro _ w5 ⟨⟨v5, rfl, o5⟩, hb5⟩
            obtain ⟨A5, c5, rfl, -, -, -⟩ := own_rd o5
            have e5 := e4.trans hb5
            have HL5 := Lib.hid (HL4.out.ext hb5)
            have HI5 := Lib.hid (i2_zero hlm1 hn100)
            clear o5 HA HL4 HL3
            go_wp2_with fail
            go_loopw [8] (fun v wr => ∃ (j : Nat) (F : Nat → Prop) (Y : List Pr) (T : List (List Pr)), v = .int .i64 j ∧ j ≤ i ∧ Ext w wr ∧ Hid (LM wr F x lim Y T) ∧ Hid (∀ g, F g → w.heap.size ≤ g) ∧ Hid (I2 lim i j Y T)) (fun v _ => i - (intOf v).toNat)
            case atStart => exact ⟨0, F3, [], _, rfl, Nat.zero_le _, e5, HL5, HF3, HI5⟩
            case round =>
              clear HL HF HI HOK HLM HTOT HTOT2 HF2 HF3 HL5 HI5
              obtain ⟨j, F1, Y, T, rfl, hi, hbw, HL, HF, HI⟩ := hrel
              have HOK := Lib.hid HL.out.many.2.2
              by_cases hc : j < i
              · have hci : (j : Int) < (i : Int) := by omega
                go_wp2_with fail
                refine (Lett_any j _ (by omega)).mono ?_
                rintro _ w2 ⟨rfl, hb2⟩
                have e2 := hbw.trans hb2
                have HC := Lib.hid (LDrop_any F1 x lim Y T (lett j) w2 (HL.out.ext hb2) (by have := HI.out.tot; rw [totL_cons] at this; omega) hlm1)
                rw [put_zero HI.out.young hlm60 (by decide), errR_0] at HC
                go_wp2_with fail
                refine HC.out.mono ?_
                rintro _ w3 ⟨rfl, F3, hop⟩
                obtain ⟨e3, hF3⟩ := hop.keep e2 HF.out
                have HL3 := Lib.hid hop.at_
                have HF3 := Lib.hid hF3
                have HI3 := Lib.hid (i2_step HI.out hlm60 HOK.out)
                clear hop hF3 hb2
                go_wp2_with fail
                go_roundw
                case rel => exact ⟨j + 1, F3, _, _, by go_num, by omega, e3, HL3, HF3, HI3⟩
                case measure => simp [intOf]; omega
              · obtain rfl : j = i := by omega
                have hci : ¬ (j : Int) < (j : Int) := by omega
                have htot : totL T ≤ 1000 := by have := HI.out.tot; rw [totL_cons] at this; omega
                have HTOT := Lib.hid htot
                have htot2 : totL (flY Y :: flT Y T) ≤ j + j := Nat.le_trans (fl_tot Y T) HI.out.tot
                have HTOT2 := Lib.hid htot2
                clear htot htot2 hc hi
                go_upto_region 21 with (fail)
                go_cut [94] from 87 to 94 (fun v wc => v = .bool false ∧ ∃ F2, LOp wr wc F1 x lim [] (flT Y T) F2)
                case first =>
                  as_aux_lemma =>
                  go_wp2_with fail
                  refine (LYoung_any F1 x lim Y T wr HL.out).mono ?_
                  rintro _ _ ⟨rfl, rfl⟩
                  by_cases hy : Y.length = 0
                  · have hy0 : ¬ (0 : Int) < (Y.length : Int) := by omega
                    have hY : Y = [] := List.length_eq_zero_iff.1 hy
                    have hT : flT Y T = T := flT_nil hy
                    have HOP : Hid (LOp wr wr F1 x lim [] (flT Y T) F1) := Lib.hid (by
                      rw [hT]
                      have := HL.out.op (Ext.refl wr)
                      rwa [hY] at this)
                    clear hY hT
                    generalize Y.length = yl at *
                    go_wp2_with fail
                    go_meet
                    exact ⟨rfl, F1, HOP.out⟩
                  · have hy0 : (0 : Int) < (Y.length : Int) := by omega
                    have HC := Lib.hid (LFlush_any F1 x lim Y T wr HL.out HTOT.out)
                    rw [show flK Y = 0 from if_neg hy, errR_0] at HC
                    generalize hyl : Y.length = yl at *
                    clear hyl
                    go_wp2_with fail
                    refine HC.out.mono ?_
                    rintro _ w2 ⟨rfl, F2, hop⟩
                    have HOP := Lib.hid hop
                    clear hop
                    go_wp2_with fail
                    go_meet
                    exact ⟨rfl, F2, HOP.out⟩
                case rest =>
                as_aux_lemma =>
                obtain ⟨rfl, F2, hop⟩ := hcut
                obtain ⟨e2, hF2⟩ := hop.keep hbw HF.out
                have HC := Lib.hid (LMerge_any F2 x lim [] (flT Y T) _ hop.at_ (by have := HTOT2.out; rw [totL_cons] at this; omega))
                have HF2 := Lib.hid hF2
                rw [show mgK (flT Y T) = 0 from if_neg (fl_some HI.out.some), errR_0, emptied HI.out HOK.out hn100] at HC
                clear hop hF2
                go_wp2_with fail
                refine HC.out.mono ?_
                rintro _ w3 ⟨rfl, F3, hop⟩
                obtain ⟨e3, hF3⟩ := hop.keep e2 HF2.out
                have HL3 := Lib.hid hop.at_
                clear hop hF3 HC
                go_wp2_with fail
                refine (LTables_any F3 x lim [] _ w3 HL3.out).mono ?_
                rintro _ w4 ⟨⟨v4, rfl, o4⟩, hb4⟩
                obtain ⟨A4, c4, rfl, -, -, -⟩ := own_rd o4
                have e4 := e3.trans hb4
                have HL4 := Lib.hid (HL3.out.ext hb4)
                have HA := Lib.hid (LAll_any F3 x lim [] _ w4 HL4.out (by decide))
                have hl0 : ([] : List (List Pr)).length = 0 := rfl
                have hl2 : (liveL ([] :: ([] : List (List Pr)))).length = 0 := rfl
                rw [hl2] at HA
                rw [hl0]
                clear o4 hl0 hl2
                go_wp2_with fail
                refine HA.out.mono ?_
                rintro _ w5 ⟨⟨v5, rfl, o5⟩, hb5⟩
                obtain ⟨A5, c5, rfl, -, -, -⟩ := own_rd o5
                clear o5
                go_wp2_with fail
                go_ret
                exact ⟨rfl, e4.trans hb5⟩
    · have hn' : n0 < 0 ∨ (¬ n0 < 0 ∧ 100 < n0) := by omega
      clear hn hL hF
      rcases hn' with h | ⟨h, h2⟩
      all_goals
        go_wp2_with fail
        go_ret
        exact ⟨rfl, e1⟩
end Go.Proofs.YtnafegofmbhahaaDoor.lsmMerges
