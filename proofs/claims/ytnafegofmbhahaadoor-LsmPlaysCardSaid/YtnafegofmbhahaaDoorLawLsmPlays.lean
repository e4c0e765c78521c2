import Derived.Test.YtnafegofmbhahaaDoorRX
import Derived.Test.YtnafegofmbhahaaDoorPairsSame
import Derived.Test.YtnafegofmbhahaaDoorError
import Derived.Test.YtnafegofmbhahaaDoorQuiet
import Derived.Deep.DeepCutAuto
import Derived.Deep.CutRange
import Derived.BigQuiet
namespace Go.Proofs.YtnafegofmbhahaaDoor.lsmPlays
open Go.RowKit Go.WideShapes
set_option linter.unusedVariables false
attribute [local go_sem ↓] Go.wp_at_zero Go.wp_at_succ

theorem wp_open_block {P : Program} {cd : Code} {b : Nat} {K : Act → World → Prop} {Q : Exit → Act → World → Prop} {a : Act} {w : World} (h : cd.wp P (Exit.then K (Exit.inBlock b (Exit.then K Q))) a w) : cd.wp P (Exit.inBlock b (Exit.then K Q)) a w :=
  Code.wp_mono (fun e a w h => by cases e <;> exact h) h

set_option maxRecDepth 100000 in
set_option maxHeartbeats 4000000 in
theorem walk (lim0 : Int) (A : Option Addr) (m c : Nat) (xs : List Int) (A' : Option Addr) (n c' : Nat) (l : List Pr) (w : World) (z0 : (Lit.int IntKind.i64 lim0).wf = true) (hxs : xs.length = m) (hm : c ≤ maxLen) (hrs : Rd w 1 A m c (xs.map (Value.int .i64))) (hgs : ∀ y ∈ xs, (Lit.int IntKind.i64 y).wf = true) (hx : l.length = n) (hm' : c' ≤ maxLen) (R : Rd w 3 A' n c' (l.flatMap Pr.cells)) (hg : ErrG w) :
    Calls Tryd.prog 9 #[.int .i64 lim0, .slice A m c, .slice A' n c'] w fun e w' => e = .returned (.bool true) ∧ Ext w w' := by
  obtain ⟨hE, hN, hG⟩ := errR_rules
  have hms : c ≤ 9223372036854775807 := by unfold maxLen at hm; omega
  have hms' : c' ≤ 9223372036854775807 := by unfold maxLen at hm'; omega
  have HXS := Lib.hid hxs
  have HX := Lib.hid hx
  have HSL := Lib.hid hrs.2.1
  have HLL := Lib.hid R.2.1
  have HRS := Lib.hid hrs
  have HR := Lib.hid R
  clear hxs hx hm hm' z0 hgs hrs R
  have h3 : lim0 < 1 ∨ (¬ lim0 < 1 ∧ 60 < lim0) ∨ (¬ lim0 < 1 ∧ ¬ 60 < lim0) := by omega
  rcases h3 with h | ⟨h, h2⟩ | ⟨h, h2⟩
  · have HLN := Lib.hid (LNew_any lim0 w)
    go_enter Tryd.func9, Tryd.ntmps9
    go_wp2_with fail
    refine HLN.out.mono ?_
    rintro e w1 (⟨-, rfl, rfl⟩ | ⟨hok, -⟩)
    · go_wp2_with fail
      refine (Error_is 1 _ hg).mono ?_
      rintro _ w2 ⟨rfl, hb2⟩
      go_wp2_with fail
      go_ret
      exact ⟨rfl, hb2⟩
    · omega
  · have HLN := Lib.hid (LNew_any lim0 w)
    go_enter Tryd.func9, Tryd.ntmps9
    go_wp2_with fail
    refine HLN.out.mono ?_
    rintro e w1 (⟨-, rfl, rfl⟩ | ⟨hok, -⟩)
    · go_wp2_with fail
      refine (Error_is 1 _ hg).mono ?_
      rintro _ w2 ⟨rfl, hb2⟩
      go_wp2_with fail
      go_ret
      exact ⟨rfl, hb2⟩
    · omega
  · have HLN := Lib.hid (LNew_any lim0 w)
    go_enter Tryd.func9, Tryd.ntmps9
    go_wp2_with fail
    refine HLN.out.mono ?_
    rintro e w1 (⟨hbad, -, -⟩ | ⟨-, x, F, rfl, L1, hF1, e1⟩)
    · omega
    obtain ⟨lim, rfl⟩ : ∃ lim : Nat, lim0 = (lim : Int) := ⟨lim0.toNat, by omega⟩
    have hl1 : 1 ≤ lim := by omega
    have hl60 : lim ≤ 60 := by omega
    have HL1 := Lib.hid L1
    have HF1 := Lib.hid hF1
    clear L1 hF1 HLN
    go_wp2_with fail
    refine (Error_is 0 _ (hg.ext e1)).mono ?_
    rintro _ w2 ⟨rfl, hb2⟩
    have e2 := e1.trans hb2
    have B3 := Bk.at_ w2 84 #[.int .i64 (lim : Int), .slice none 0 0, .slice none 0 0] w2.heap.size rfl
    have e3 : Ext w2 (w2.alloc (.cells #[.int .i64 (lim : Int), .slice none 0 0, .slice none 0 0] 84)) := (Ext.refl _).alloc _
    obtain ⟨mb, hmb⟩ : ∃ mb, w2.heap.size = mb := ⟨_, rfl⟩
    have HX3 : Hid (XR w (w2.alloc (.cells #[.int .i64 (lim : Int), .slice none 0 0, .slice none 0 0] 84)) x lim mb [] [] [] [] (fun _ => False)) := Lib.hid (by
      have hlt := B3.lt
      have hs := e2.size
      have hs3 := e3.size
      refine ⟨e2.trans e3, fun g => F g ∧ g < w1.heap.size, fun g => g = mb, (HL1.out.trim'.ext hb2).ext e3, ⟨.slice none 0 0, .slice none 0 0, [], ⟨by rw [← hmb]; exact B3, own_nil _ _ _ _, own_nil _ _ _ _, OwLs.nil _⟩, fun g hg => ?_⟩, fun g hg => ⟨HF1.out g hg.1, ?_⟩, fun g hg => ?_, fun g hg hg2 => ?_, fun g hg => hg.elim⟩
      · rcases hg with rfl | hg | hg | ⟨v, hv, _⟩
        · rfl
        · simp [Value.ownBlock] at hg
        · simp [Value.ownBlock] at hg
        · simp at hv
      · have := hg.2; have := hb2.size; omega
      · omega
      · have := hg.2; have := hb2.size; omega)
    have HJ3 : Hid (PJ 0 lim [] []) := ⟨hl1, Nat.le_refl _⟩
    clear B3 HL1 HF1 h h2
    go_upto_region 9 with (fail)
    generalize w2.alloc (.cells #[.int .i64 (lim : Int), .slice none 0 0, .slice none 0 0] 84) = w3 at *
    try rw [hmb]
    clear hmb
    go_wp2_with fail
    go_loopw [7, 10, 12, 13, 14, 15, 16, 17, 18, 19, 20, 21] (fun _ _ y _ _ _ _ _ _ _ _ _ wr => ∃ (i : Nat) (Y : List Pr) (T : List (List Pr)), y = .int .i64 i ∧ i ≤ m ∧ i ≤ 80 ∧ Hid (XR w wr x lim mb Y T Y T (fun _ => False)) ∧ Hid (PJ i lim Y T)) (fun _ _ y _ _ _ _ _ _ _ _ _ _ => m - (intOf y).toNat)
    case atStart => exact ⟨0, [], [], rfl, Nat.zero_le _, Nat.zero_le _, HX3, HJ3⟩
    case round =>
      clear HX3 HJ3
      obtain ⟨i, Y, T, rfl, hi, hi8, HX1, HJ1⟩ := hrel
      have hbw := HX1.out.1
      by_cases hc : i < m ∧ i < 80
      · obtain ⟨hc1, hc2⟩ := hc
        have hci : (i : Int) < 80 := by omega
        have hgx := List.getElem?_eq_getElem (l := xs) (i := i) (by rw [HXS.out]; exact hc1)
        have hgx2 : (xs.map (Value.int .i64))[i]? = some (.int .i64 (xs[i]'(by rw [HXS.out]; exact hc1))) := by rw [List.getElem?_map, hgx]; rfl
        obtain ⟨ads, rfl, hsb, hcs⟩ := HRS.out.at_ hgx2
        generalize xs[i]'(by rw [HXS.out]; exact hc1) = s at *
        have hsl : (ads.add i).block < w.heap.size := by rw [blk_add]; exact hsb
        have HCS := Lib.hid hcs
        have HSLO := HSL.out
        have P3 := Bk.at_ wr 25 #[.string ⟨#[]⟩, .string ⟨#[]⟩, .bool false] wr.heap.size rfl
        have e4 : Ext wr (wr.alloc (.cells #[.string ⟨#[]⟩, .string ⟨#[]⟩, .bool false] 25)) := (Ext.refl _).alloc _
        obtain ⟨pb, hpb⟩ : ∃ pb, wr.heap.size = pb := ⟨_, rfl⟩
        have hpl : wr.heap.size ≤ pb := Nat.le_of_eq hpb
        clear hgx hgx2 hcs
        go_upto_if 58 with (fail)
        generalize wr.alloc (.cells #[.string ⟨#[]⟩, .string ⟨#[]⟩, .bool false] 25) = w4 at *
        rw [hpb] at P3
        try rw [hpb]
        have HP3 := Lib.hid P3
        clear P3
        go_cut [6] (fun _ wc => ∃ q : Pr, Ext wr wc ∧ Hid (Bk wc pb 25 #[.string q.key, .string q.value, .bool q.gone]))
        case first =>
          as_aux_lemma =>
          by_cases hn0 : 0 < n
          · have hnI : (0 : Int) < (n : Int) := by omega
            have hnz : ¬ (n : Int) = 0 := by omega
            obtain ⟨j, hj⟩ : ∃ j, i % n = j := ⟨_, rfl⟩
            have hjn : j < n := by rw [← hj]; exact Nat.mod_lt _ hn0
            have htm : ((i : Int)).tmod (n : Int) = (j : Int) := by rw [← hj]; rfl
            have hgj := List.getElem?_eq_getElem (l := l) (i := j) (by rw [HX.out]; exact hjn)
            obtain ⟨ad, rfl, hb0, d0, d1, d2⟩ := (HR.out.ext (hbw.trans e4)).getP hgj
            generalize l[j]'(by rw [HX.out]; exact hjn) = q at *
            obtain ⟨qk, qv, qg⟩ := q
            simp only at d0 d1 d2
            have hjI : (j : Int) < (n : Int) := by omega
            have hne : (ad.add (j * 3)).block ≠ pb := by
              obtain ⟨ad', h1, hlt, _⟩ := HR.out.2.2 (by omega)
              obtain rfl : ad = ad' := by injection h1
              rw [blk_add]
              have := hbw.size
              omega
            have HA := HLL.out
            have f0 := HP3.out.frozen 0
            have f1 := HP3.out.frozen 1
            have f2 := HP3.out.frozen 2
            have q0 : w4.cell? ⟨pb, 0, none⟩ = some (.string ⟨#[]⟩) := HP3.out.cell 0
            have q1 : w4.cell? ⟨pb, 1, none⟩ = some (.string ⟨#[]⟩) := HP3.out.cell 1
            have q2 : w4.cell? ⟨pb, 2, none⟩ = some (.bool false) := HP3.out.cell 2
            clear hgj hj
            go_wp2_with fail
            go_meet
            exact ⟨⟨qk, qv, qg⟩, ((e4.setCell (p := ⟨pb, 0, none⟩) hpl (.string qk)).setCell (p := ⟨pb, 1, none⟩) hpl (.string qv)).setCell (p := ⟨pb, 2, none⟩) hpl (.bool qg), ((HP3.out.set_ 0 (.string qk)).set_ 1 (.string qv)).set_ 2 (.bool qg)⟩
          · have hnI : ¬ (0 : Int) < (n : Int) := by omega
            go_wp2_with fail
            go_meet
            exact ⟨⟨⟨#[]⟩, ⟨#[]⟩, false⟩, e4, HP3⟩
        case rest =>
        as_aux_lemma =>
        obtain ⟨q, e5, HB5⟩ := hcut
        obtain ⟨qk, qv, qg⟩ := q
        have HB5' : Hid (Bk wc pb 25 #[.string qk, .string qv, .bool qg]) := HB5
        have q1 : wc.cell? ⟨pb, 1, none⟩ = some (.string qv) := HB5'.out.cell 1
        have q2 : wc.cell? ⟨pb, 2, none⟩ = some (.bool qg) := HB5'.out.cell 2
        have f1 : wc.frozen? ⟨pb, 1, none⟩ = false := HB5'.out.frozen 1
        go_upto_if 67 with (fail)
        go_cut [6] (fun _ wd => ∃ qv' : ByteArray, Ext wr wd ∧ Hid (qg = true → qv' = ⟨#[]⟩) ∧ Hid (Bk wd pb 25 #[.string qk, .string qv', .bool qg]))
        case first =>
          as_aux_lemma =>
          cases qg with
          | true =>
            go_wp2_with fail
            go_meet
            exact ⟨⟨#[]⟩, e5.setCell (p := ⟨pb, 1, none⟩) hpl (.string ⟨#[]⟩), fun _ => rfl, HB5'.out.set_ 1 (.string ⟨#[]⟩)⟩
          | false =>
            go_wp2_with fail
            go_meet
            exact ⟨qv, e5, (by first | (show _ → _; intro h; cases h) | trivial), HB5'⟩
        case rest =>
        as_aux_lemma =>
        clear q1 q2 f1 HB5' e5
        obtain ⟨pv, e6, HGV, HB6⟩ := hcut
        have HX6 := Lib.hid (HX1.out.box e6 hpl HB6.out.lt)
        have cs : wc.cell? (ads.add i) = some (.int .i64 s) := (HX6.out.1.cell (p := ads.add i) hsl).trans HCS.out
        have htot : totL T ≤ 1000 := by have := HJ1.out.tot; rw [totL_cons] at this; omega
        have hy60 : Y.length ≤ 1000 := by have := HJ1.out.young; omega
        have HTOT := Lib.hid htot
        have HT8 := Lib.hid (show T.length ≤ 1000 from Nat.le_trans HX6.out.many.1 (by omega))
        have HYA := Lib.hid HX6.out.many.2.1.hd.1
        clear HB5 e4 HP3 htot
        go_upto_if 92 with (fail)
        obtain ⟨sb, hsbb⟩ : ∃ sb : Bool, (s == 0) = sb := ⟨_, rfl⟩
        rw [hsbb]
        have HSBB := Lib.hid hsbb
        clear hsbb
        refine wp_open_block ?_
        go_cut [7, 10] (fun _ t wd => t = .bool true ∧ ∃ (Y9 : List Pr) (T9 : List (List Pr)), Hid (XR w wd x lim mb Y9 T9 Y9 T9 (fun g => g = pb)) ∧ Hid (PJ (i + 1) lim Y9 T9) ∧ Hid (Bk wd pb 25 #[.string qk, .string pv, .bool qg]))
        case first =>
          as_aux_lemma =>
          by_cases hs0 : s = 0
          · obtain rfl : sb = true := by rw [← HSBB.out, hs0]; rfl
            subst hs0
            have HC := Lib.hid (XM_flush HX6.out HTOT.out HT8.out)
            obtain ⟨kk, hkk⟩ : ∃ k, flK Y = k := ⟨_, rfl⟩
            rw [hkk] at HC
            have HKK := Lib.hid hkk
            clear hkk
            go_wp2_with fail
            refine HC.out.mono ?_
            rintro _ w7 ⟨rfl, X7, b7⟩
            have HX7 := Lib.hid X7
            have hb7 : Bk w7 pb 25 #[.string qk, .string pv, .bool qg] := (b7 pb rfl).trans HB6.out
            have HB7 := Lib.hid hb7
            clear X7 b7 HC hb7 cs
            have HD := Lib.hid (XR_flush HX7.out HTOT.out)
            rw [HKK.out] at HD
            go_wp2_with fail
            refine HD.out.mono ?_
            rintro _ w8 ⟨rfl, X8, b8⟩
            have HX8 := Lib.hid X8
            have hb8 : Bk w8 pb 25 #[.string qk, .string pv, .bool qg] := (b8 pb rfl).trans HB7.out
            have HB8 := Lib.hid hb8
            clear X8 b8 HD hb8
            go_wp2_with fail
            refine (Error_is kk _ (hg.ext HX8.out.1)).mono ?_
            rintro _ w9 ⟨rfl, hb9⟩
            go_wp2_with fail
            go_meet
            exact ⟨rfl, flY Y, flT Y T, HX8.out.ext hb9, HJ1.out.fl hl1, HB8.out.ext hb9⟩
          · obtain rfl : sb = false := by rw [← HSBB.out]; exact beq_eq_false_iff_ne.2 hs0
            by_cases hs1 : s = 1
            · subst hs1
              have HC := Lib.hid (XM_merge HX6.out HTOT.out HT8.out)
              obtain ⟨kk, hkk⟩ : ∃ k, mgK T = k := ⟨_, rfl⟩
              rw [hkk] at HC
              have HKK := Lib.hid hkk
              clear hkk
              go_wp2_with fail
              refine HC.out.mono ?_
              rintro _ w7 ⟨rfl, X7, b7⟩
              have HX7 := Lib.hid X7
              have hb7 : Bk w7 pb 25 #[.string qk, .string pv, .bool qg] := (b7 pb rfl).trans HB6.out
              have HB7 := Lib.hid hb7
              clear X7 b7 HC hb7 cs
              have HD := Lib.hid (XR_merge HX7.out HTOT.out)
              rw [HKK.out] at HD
              go_wp2_with fail
              refine HD.out.mono ?_
              rintro _ w8 ⟨rfl, X8, b8⟩
              have HX8 := Lib.hid X8
              have hb8 : Bk w8 pb 25 #[.string qk, .string pv, .bool qg] := (b8 pb rfl).trans HB7.out
              have HB8 := Lib.hid hb8
              clear X8 b8 HD hb8
              go_wp2_with fail
              refine (Error_is kk _ (hg.ext HX8.out.1)).mono ?_
              rintro _ w9 ⟨rfl, hb9⟩
              go_wp2_with fail
              go_meet
              exact ⟨rfl, Y, mergeT T, HX8.out.ext hb9, HJ1.out.mg, HB8.out.ext hb9⟩
            · have hs1b : (s == 1) = false := beq_eq_false_iff_ne.2 hs1
              clear hs0 hs1
              have b0 : wc.cell? ⟨pb, 0, none⟩ = some (.string qk) := HB6.out.cell 0
              have b1 : wc.cell? ⟨pb, 1, none⟩ = some (.string pv) := HB6.out.cell 1
              have b2 : wc.cell? ⟨pb, 2, none⟩ = some (.bool qg) := HB6.out.cell 2
              cases qg with
              | true =>
                obtain rfl : pv = ⟨#[]⟩ := HGV.out rfl
                have HC := Lib.hid (XM_put ⟨qk, ⟨#[]⟩, true⟩ HX6.out HTOT.out HT8.out hl1 HYA.out hy60)
                obtain ⟨kk, hkk⟩ : ∃ k, putK Y ⟨qk, ⟨#[]⟩, true⟩ = k := ⟨_, rfl⟩
                rw [hkk] at HC
                have HKK := Lib.hid hkk
                clear hkk
                go_wp2_with fail
                refine HC.out.mono ?_
                rintro _ w7 ⟨rfl, X7, b7⟩
                have HX7 := Lib.hid X7
                have hb7 : Bk w7 pb 25 #[.string qk, .string ⟨#[]⟩, .bool true] := (b7 pb rfl).trans HB6.out
                have HB7 := Lib.hid hb7
                have z0 : w7.cell? ⟨pb, 0, none⟩ = some (.string qk) := HB7.out.cell 0
                have z1 : w7.cell? ⟨pb, 1, none⟩ = some (.string ⟨#[]⟩) := HB7.out.cell 1
                have z2 : w7.cell? ⟨pb, 2, none⟩ = some (.bool true) := HB7.out.cell 2
                clear X7 b7 HC hb7 cs
                have HD := Lib.hid (XR_drop qk HX7.out HTOT.out hl1)
                rw [HKK.out] at HD
                go_wp2_with fail
                refine HD.out.mono ?_
                rintro _ w8 ⟨rfl, X8, b8⟩
                have HX8 := Lib.hid X8
                have hb8 : Bk w8 pb 25 #[.string qk, .string ⟨#[]⟩, .bool true] := (b8 pb rfl).trans HB7.out
                have HB8 := Lib.hid hb8
                clear X8 b8 HD hb8
                go_wp2_with fail
                refine (Error_is kk _ (hg.ext HX8.out.1)).mono ?_
                rintro _ w9 ⟨rfl, hb9⟩
                go_wp2_with fail
                go_meet
                exact ⟨rfl, doY lim Y ⟨qk, ⟨#[]⟩, true⟩, doT lim Y T ⟨qk, ⟨#[]⟩, true⟩, HX8.out.ext hb9, HJ1.out.put _, HB8.out.ext hb9⟩
              | false =>
                have HC := Lib.hid (XM_put ⟨qk, pv, false⟩ HX6.out HTOT.out HT8.out hl1 HYA.out hy60)
                obtain ⟨kk, hkk⟩ : ∃ k, putK Y ⟨qk, pv, false⟩ = k := ⟨_, rfl⟩
                rw [hkk] at HC
                have HKK := Lib.hid hkk
                clear hkk
                go_wp2_with fail
                refine HC.out.mono ?_
                rintro _ w7 ⟨rfl, X7, b7⟩
                have HX7 := Lib.hid X7
                have hb7 : Bk w7 pb 25 #[.string qk, .string pv, .bool false] := (b7 pb rfl).trans HB6.out
                have HB7 := Lib.hid hb7
                have z0 : w7.cell? ⟨pb, 0, none⟩ = some (.string qk) := HB7.out.cell 0
                have z1 : w7.cell? ⟨pb, 1, none⟩ = some (.string pv) := HB7.out.cell 1
                have z2 : w7.cell? ⟨pb, 2, none⟩ = some (.bool false) := HB7.out.cell 2
                clear X7 b7 HC hb7 cs
                have HD := Lib.hid (XR_put qk pv HX7.out HTOT.out hl1)
                rw [HKK.out] at HD
                go_wp2_with fail
                refine HD.out.mono ?_
                rintro _ w8 ⟨rfl, X8, b8⟩
                have HX8 := Lib.hid X8
                have hb8 : Bk w8 pb 25 #[.string qk, .string pv, .bool false] := (b8 pb rfl).trans HB7.out
                have HB8 := Lib.hid hb8
                clear X8 b8 HD hb8
                go_wp2_with fail
                refine (Error_is kk _ (hg.ext HX8.out.1)).mono ?_
                rintro _ w9 ⟨rfl, hb9⟩
                go_wp2_with fail
                go_meet
                exact ⟨rfl, doY lim Y ⟨qk, pv, false⟩, doT lim Y T ⟨qk, pv, false⟩, HX8.out.ext hb9, HJ1.out.put _, HB8.out.ext hb9⟩
        case rest =>
        as_aux_lemma =>
        obtain ⟨rfl, Y9, T9, HX9, HJ9, HB9⟩ := hcut
        clear HX1 HJ1 HX6 HB6 HCS cs HTOT HT8 HYA hy60 HGV HSBB
        have HLG := Lib.hid (live_getV HX9.out.many.2.1 qk)
        have HLA := Lib.hid (live_asc (Y9 :: T9))
        have HOKT := Lib.hid HX9.out.many.2.1.tl
        have ht9 : totL (Y9 :: T9) ≤ 1000 := by have := HJ9.out.tot; omega
        have HT9 := Lib.hid ht9
        have HT9' : Hid (totL T9 ≤ 1000) := Lib.hid (by rw [totL_cons] at ht9; omega)
        have HT98 := Lib.hid (show T9.length ≤ 1000 from Nat.le_trans HX9.out.many.1 (by omega))
        have HMA := Lib.hid (XM_all HX9.out HT9.out HT98.out)
        obtain ⟨L, hL⟩ : ∃ L, liveL (Y9 :: T9) = L := ⟨_, rfl⟩
        have hlen := live_len (Y9 :: T9)
        rw [hL] at HMA HLG HLA hlen
        have HLL2 := Lib.hid hL
        obtain ⟨kk, hkk⟩ : ∃ k, L.length = k := ⟨_, rfl⟩
        rw [hkk] at HMA hlen
        have HKK := Lib.hid hkk
        have hkk3 : kk ≤ 1000 := by omega
        clear hL hkk ht9
        go_wp2_with fail
        refine HMA.out.mono ?_
        rintro _ w10 ⟨⟨v10, rfl, o10⟩, hb10⟩
        obtain ⟨Aa, ca, rfl, hca, Ra, -⟩ := own_rd o10
        have HX10 := Lib.hid (HX9.out.ext hb10)
        have HB10 := Lib.hid (HB9.out.ext hb10)
        have HRA := Lib.hid Ra
        have z0 : w10.cell? ⟨pb, 0, none⟩ = some (.string qk) := HB10.out.cell 0
        have HGC := Lib.hid (RSGet_any Aa kk ca L qk w10 Ra hca HLA.out)
        rw [HLG.out.1, HLG.out.2] at HGC
        have h2 := oK_two (seeL Y9 T9 qk)
        have HXG := Lib.hid (XR_get qk HX10.out)
        obtain ⟨ov, hov⟩ : ∃ v, oV (seeL Y9 T9 qk) = v := ⟨_, rfl⟩
        obtain ⟨ok, hok⟩ : ∃ v, oK (seeL Y9 T9 qk) = v := ⟨_, rfl⟩
        rw [hov, hok] at HGC HXG
        rw [hok] at h2
        have hkc := Ra.2.1
        have hca2 : ca ≤ 9223372036854775807 := by unfold maxLen at hca; omega
        clear o10 Ra hov hok HMA
        rcases h2 with rfl | rfl
        · rw [show isOk 0 = true from rfl] at HGC
          rw [errR_0] at HXG
          go_wp2_with fail
          refine HGC.out.mono ?_
          rintro _ _ ⟨rfl, rfl⟩
          go_wp2_with fail
          refine HXG.out.mono ?_
          rintro _ w11 ⟨rfl, hb11⟩
          have HX11 := Lib.hid (HX10.out.ext hb11)
          go_wp2_with fail
          refine (Error_is 0 _ (hg.ext HX11.out.1)).mono ?_
          rintro _ w12 ⟨rfl, hb12⟩
          have HX12 := Lib.hid (HX11.out.ext hb12)
          have HAL := Lib.hid (XR_all HX12.out HT9.out)
          rw [HLL2.out, HKK.out] at HAL
          go_wp2_with fail
          refine HAL.out.mono ?_
          rintro _ w13 ⟨⟨v13, rfl, o13⟩, hb13⟩
          obtain ⟨Ab, cb, rfl, -, Rb, -⟩ := own_rd o13
          have HX13 := Lib.hid (HX12.out.ext hb13)
          have HPC := Lib.hid (Pairs_same Ab Aa kk cb ca L w13 Rb (((HRA.out.ext hb11).ext hb12).ext hb13) (by omega))
          clear o13 Rb HAL
          go_wp2_with fail
          refine HPC.out.mono ?_
          rintro _ w14 ⟨rfl, hb14⟩
          have HX14 := Lib.hid (HX13.out.ext hb14)
          have HTC := Lib.hid (XR_tables HX14.out)
          obtain ⟨tl, htl⟩ : ∃ k, T9.length = k := ⟨_, rfl⟩
          rw [htl] at HTC
          have HTL := Lib.hid htl
          have htl8 : tl ≤ 1000 := by rw [← htl]; exact HT98.out
          clear htl
          go_wp2_with fail
          refine HTC.out.mono ?_
          rintro _ w15 ⟨⟨v15, rfl, o15⟩, hb15⟩
          obtain ⟨At, ct, rfl, -, Rt, -⟩ := own_rd o15
          have HX15 := Lib.hid (HX14.out.ext hb15)
          have HRT := Lib.hid Rt
          have HTM := Lib.hid (XM_tables HX15.out HT98.out HOKT.out HT9'.out)
          rw [HTL.out] at HTM
          clear o15 Rt HTC
          go_wp2_with fail
          refine HTM.out.mono ?_
          rintro _ w16 ⟨⟨v16, rfl, o16⟩, hb16⟩
          obtain ⟨Au, cu, rfl, -, Ru, -⟩ := own_rd o16
          have HX16 := Lib.hid (HX15.out.ext hb16)
          have HSM := Lib.hid (Texts_same At Au tl ct cu T9 w16 HTL.out (HRT.out.ext hb16) Ru htl8)
          clear o16 Ru HTM
          go_wp2_with fail
          refine HSM.out.mono ?_
          rintro _ w17 ⟨rfl, hb17⟩
          have HX17 := Lib.hid (HX16.out.ext hb17)
          obtain ⟨Ay, cy, hym⟩ := XM_young HX17.out
          obtain ⟨yl, hyl⟩ : ∃ k, Y9.length = k := ⟨_, rfl⟩
          rw [hyl] at hym
          have cy1 : ∀ e : WE w17, e.W.cell? ⟨mb, 1, none⟩ = some (.slice Ay yl cy) := fun e => hym e.W e.h
          have HYC := Lib.hid fun e : WE w17 => XR_young (HX17.out.ext e.h)
          rw [hyl] at HYC
          clear hym hyl z0
          go_upto_region 37 with (fail)
          (refine wp_region_ext (w0 := w17) (by kernel_rfl) (by kernel_rfl) (by (repeat (with_reducible first | exact Ext.refl _ | assumption | refine Ext.drew ?_ | refine Ext.drewN ?_ _ | refine Ext.alloc ?_ _ | refine Ext.trans ?_ (by with_reducible assumption)))) ?_; (repeat (go_big_quiet_step ((go_at_call 49; exact quietS (HYC.out _))))); refine wpQuiet_nil ?_)
          intro w18 hb18
          have HX18 := Lib.hid ((HX17.out.ext hb18).weak (H' := fun _ => False) fun g hg => hg.elim)
          clear cy1
          go_wp2_with fail
          go_roundw
          case rel => exact ⟨i + 1, Y9, T9, by go_num, by omega, by omega, HX18, HJ9⟩
          case measure => simp [intOf]; omega
        · rw [show isOk 5 = false from rfl] at HGC
          go_wp2_with fail
          refine HGC.out.mono ?_
          rintro _ _ ⟨rfl, rfl⟩
          go_wp2_with fail
          refine HXG.out.mono ?_
          rintro _ w11 ⟨rfl, hb11⟩
          have HX11 := Lib.hid (HX10.out.ext hb11)
          go_wp2_with fail
          refine (Error_is 5 _ (hg.ext HX11.out.1)).mono ?_
          rintro _ w12 ⟨rfl, hb12⟩
          have HX12 := Lib.hid (HX11.out.ext hb12)
          have HAL := Lib.hid (XR_all HX12.out HT9.out)
          rw [HLL2.out, HKK.out] at HAL
          go_wp2_with fail
          refine HAL.out.mono ?_
          rintro _ w13 ⟨⟨v13, rfl, o13⟩, hb13⟩
          obtain ⟨Ab, cb, rfl, -, Rb, -⟩ := own_rd o13
          have HX13 := Lib.hid (HX12.out.ext hb13)
          have HPC := Lib.hid (Pairs_same Ab Aa kk cb ca L w13 Rb (((HRA.out.ext hb11).ext hb12).ext hb13) (by omega))
          clear o13 Rb HAL
          go_wp2_with fail
          refine HPC.out.mono ?_
          rintro _ w14 ⟨rfl, hb14⟩
          have HX14 := Lib.hid (HX13.out.ext hb14)
          have HTC := Lib.hid (XR_tables HX14.out)
          obtain ⟨tl, htl⟩ : ∃ k, T9.length = k := ⟨_, rfl⟩
          rw [htl] at HTC
          have HTL := Lib.hid htl
          have htl8 : tl ≤ 1000 := by rw [← htl]; exact HT98.out
          clear htl
          go_wp2_with fail
          refine HTC.out.mono ?_
          rintro _ w15 ⟨⟨v15, rfl, o15⟩, hb15⟩
          obtain ⟨At, ct, rfl, -, Rt, -⟩ := own_rd o15
          have HX15 := Lib.hid (HX14.out.ext hb15)
          have HRT := Lib.hid Rt
          have HTM := Lib.hid (XM_tables HX15.out HT98.out HOKT.out HT9'.out)
          rw [HTL.out] at HTM
          clear o15 Rt HTC
          go_wp2_with fail
          refine HTM.out.mono ?_
          rintro _ w16 ⟨⟨v16, rfl, o16⟩, hb16⟩
          obtain ⟨Au, cu, rfl, -, Ru, -⟩ := own_rd o16
          have HX16 := Lib.hid (HX15.out.ext hb16)
          have HSM := Lib.hid (Texts_same At Au tl ct cu T9 w16 HTL.out (HRT.out.ext hb16) Ru htl8)
          clear o16 Ru HTM
          go_wp2_with fail
          refine HSM.out.mono ?_
          rintro _ w17 ⟨rfl, hb17⟩
          have HX17 := Lib.hid (HX16.out.ext hb17)
          obtain ⟨Ay, cy, hym⟩ := XM_young HX17.out
          obtain ⟨yl, hyl⟩ : ∃ k, Y9.length = k := ⟨_, rfl⟩
          rw [hyl] at hym
          have cy1 : ∀ e : WE w17, e.W.cell? ⟨mb, 1, none⟩ = some (.slice Ay yl cy) := fun e => hym e.W e.h
          have HYC := Lib.hid fun e : WE w17 => XR_young (HX17.out.ext e.h)
          rw [hyl] at HYC
          clear hym hyl z0
          go_upto_region 37 with (fail)
          (refine wp_region_ext (w0 := w17) (by kernel_rfl) (by kernel_rfl) (by (repeat (with_reducible first | exact Ext.refl _ | assumption | refine Ext.drew ?_ | refine Ext.drewN ?_ _ | refine Ext.alloc ?_ _ | refine Ext.trans ?_ (by with_reducible assumption)))) ?_; (repeat (go_big_quiet_step ((go_at_call 49; exact quietS (HYC.out _))))); refine wpQuiet_nil ?_)
          intro w18 hb18
          have HX18 := Lib.hid ((HX17.out.ext hb18).weak (H' := fun _ => False) fun g hg => hg.elim)
          clear cy1
          go_wp2_with fail
          go_roundw
          case rel => exact ⟨i + 1, Y9, T9, by go_num, by omega, by omega, HX18, HJ9⟩
          case measure => simp [intOf]; omega
      · have hci : ¬ ((i : Int) < (m : Int)) ∨ ((i : Int) < (m : Int) ∧ ¬ (i : Int) < 80) := by omega
        clear hc
        go_upto_region 10 with (fail)
        go_cut [53] from 46 to 53 (fun v wc => v = .bool false ∧ wr = wc)
        case first =>
          as_aux_lemma =>
          rcases hci with h | ⟨h, h2⟩
          · go_wp2_with fail
            go_meet
            exact ⟨rfl, rfl⟩
          · go_wp2_with fail
            go_meet
            exact ⟨rfl, rfl⟩
        case rest =>
        as_aux_lemma =>
        obtain ⟨rfl, rfl⟩ := hcut
        go_wp2_with fail
        go_ret
        exact ⟨rfl, hbw⟩
end Go.Proofs.YtnafegofmbhahaaDoor.lsmPlays

