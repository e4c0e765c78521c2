import Derived.Test.YtgfkalhpefjenaaDoorPeaks3
import Derived.Test.YtgfkalhpefjenaaDoorPeaks4
import Derived.Test.YtgfkalhpefjenaaDoorRParts
import Derived.Test.YtgfkalhpefjenaaDoorR5
import Derived.Test.YtgfkalhpefjenaaDoorQuiet
import Derived.Deep.DeepCutAuto
import Derived.Deep.CutBlock
namespace Go.Proofs.YtgfkalhpefjenaaDoor.peaksTell
open Go.RowKit
set_option linter.unusedVariables false
attribute [local go_sem ↓] Go.wp_at_zero Go.wp_at_succ

/-- the list of all that were appended, beside the peaks -/
def AllS (w0 w : World) (pb : Nat) (r : Option Nat) (v : Value) (X : List Int) : Prop :=
  w.ownsRow w0.heap.size 3 1 v X.length (X.map (Value.int .i64)) ∧ ∀ g, v.ownBlock = some g → g ≠ pb ∧ r ≠ some g

set_option maxRecDepth 100000 in
set_option maxHeartbeats 8000000 in
theorem walk (A : Option Addr) (n c : Nat) (xs : List Int) (size : Int) (A2 : Option Addr) (n2 c2 : Nat) (ys : List Int) (w : World) (hl : xs.length = n) (hm : c ≤ maxLen) (hr : Rd w 1 A n c (xs.map (Value.int .i64))) (hgd : ∀ y ∈ xs, igood y) (h0 : igood size) (hl2 : ys.length = n2) (hm2 : c2 ≤ maxLen) (hr2 : Rd w 1 A2 n2 c2 (ys.map (Value.int .i64))) (hgd2 : ∀ y ∈ ys, igood y) (hg : ErrG w) :
    Calls Tryd.prog 7 #[.slice A n c, .int .i64 size, .slice A2 n2 c2] w fun e w' => e = .returned (.bool true) ∧ Ext w w' := by
  have hlc := hr.2.1
  have hlc2 := hr2.2.1
  have HX := Lib.hid hl
  have HY := Lib.hid hl2
  have hms : c ≤ 9223372036854775807 := by unfold maxLen at hm; omega
  have hms2 : c2 ≤ 9223372036854775807 := by unfold maxLen at hm2; omega
  obtain ⟨i0, hi0, hz0, hz1, hz2⟩ := info_parts info_int
  clear hl hl2 hgd hgd2 h0
  go_enter Tryd.func7, Tryd.ntmps7
  go_wp2_with fail
  refine (PNew_pk _).mono ?_
  rintro _ w1 ⟨rfl, hp1, hb1⟩
  obtain ⟨pb, hpb⟩ : ∃ pb, pb = w.heap.size := ⟨_, rfl⟩
  have HP1 : Hid (Pk w1 w.heap.size pb none []) := by rw [hpb]; exact hp1
  rw [← hpb]
  clear hp1 hpb
  go_upto_block 0 with (fail)
  go_cut [6, 8, 9, 10, 11, 12] (fun _ v _ _ _ _ wc => ∃ (r : Option Nat) (X : List Int), X.length ≤ 200 ∧ allV X = true ∧ Ext w wc ∧ Pk wc w.heap.size pb r X ∧ OwnI w wc v X)
  case first =>
    as_aux_lemma =>
    go_wp2_with fail
    go_loopw [8, 9] (fun v x wr => ∃ (j : Nat) (r : Option Nat) (X : List Int), x = .int .i64 j ∧ j ≤ n ∧ j ≤ 210 ∧ X.length ≤ 200 ∧ Hid (allV X = true) ∧ Ext w wr ∧ Hid (Pk wr w.heap.size pb r X) ∧ Hid (AllS w wr pb r v X)) (fun _ x _ => n - (intOf x).toNat)
    case atStart => exact ⟨0, none, [], rfl, Nat.zero_le _, Nat.zero_le _, Nat.zero_le _, rfl, hb1, HP1, own_nil _ _ _ _, by simp [Value.ownBlock]⟩
    case round =>
      obtain ⟨j, r, X, rfl, hj, hj2, hXl, HV, hbw, HP, HA⟩ := hrel
      by_cases hc : j < n ∧ j < 210
      · obtain ⟨hc1, hc2⟩ := hc
        have hgj := List.getElem?_eq_getElem (l := xs) (i := j) (by rw [HX.out]; exact hc1)
        obtain ⟨ad, rfl, hb, hcell⟩ := (hr.ext hbw).getI hgj
        generalize xs[j]'(by rw [HX.out]; exact hc1) = z at *
        have HGJ := Lib.hid hgj
        clear hgj
        have i2 : (j : Int) < 210 := by omega
        obtain ⟨vb, HVB⟩ : ∃ b, Hid (vld z = b) := ⟨_, rfl⟩
        go_wp2_with fail
        refine (RValid_any z _).mono ?_
        rw [HVB.out]
        rintro _ _ ⟨rfl, rfl⟩
        obtain ⟨A8, c8, rfl, hc8, R8, -⟩ := own_rd HA.out.1
        have hms8 : c8 ≤ 9223372036854775807 := by unfold maxLen at hc8; omega
        have hlc8 := R8.2.1
        clear R8
        obtain ⟨k, HK⟩ : ∃ k, Hid (appK X.length z = k) := ⟨_, rfl⟩
        obtain ⟨Y, HYX⟩ : ∃ k, Hid (appX X z = k) := ⟨_, rfl⟩
        have hbw0 := hbw.size
        go_upto_if 36 with (fail)
        go_cut [8, 11] (fun v e wc => e = .int .i64 k ∧ Ext w wc ∧ Hid (Pk wc w.heap.size pb r X) ∧ Hid (AllS w wc pb r v Y))
        case first =>
          as_aux_lemma =>
          have hk := HK.out
          have hy := HYX.out
          have hv := HVB.out
          cases vb
          · have hno : ¬ (vld z = true ∧ X.length < 200) := by rw [hv]; simp
            rw [appX_no hno] at hy
            unfold appK at hk
            rw [hv, if_neg (by decide)] at hk
            subst hk
            subst hy
            clear hno HK HYX hv HVB
            go_wp2_with fail
            go_meet
            exact ⟨rfl, hbw, HP, HA⟩
          · by_cases h2 : X.length < 200
            · rw [appX_yes ⟨hv, h2⟩] at hy
              rw [appK_zero ⟨hv, h2⟩] at hk
              subst hk
              subst hy
              have hA2 := Lib.hid HA.out.2
              have hpb := Lib.hid HP.out.below
              have HP' := Lib.hid (HP.out.ext (Ext.alloc (Ext.refl wr) (.cells #[.int .i64 z] 3)))
              clear HK HYX hv HVB
              go_wp2_with (at_builtin; refine wpl_apps (by rfl) _ _ _ (by rfl) w.heap.size 3 i0 _ 1 8 Tryd.underlying36 hi0 hz0 hz1 hz2 rfl (by omega) (.slice A8 X.length c8) _ _ (by rfl) (HA.out.1.alloc _) ⟨wr.heap.size, 0, none⟩ 1 1 [.int .i64 z] (by rfl) (by rfl) (news_new wr _ _ _ rfl) (fun u hu => by simp at hu; subst hu; rfl) (by omega) (by omega) (by omega) (by simp; omega) ?_; intro g cap w3 own3 hg3 hH3 hlt3)
              have hPK : Pk w3 w.heap.size pb r X := HP'.out.kept hg3 (fun e => (hA2.out pb e).1 rfl) (fun g e e' => (hA2.out g e).2 e')
              have hXX : Ext w w3 := below_trans (Ext.alloc hbw (.cells #[.int .i64 z] 3)) (below_gb hg3 (by simp; omega) (fun g e => own_block HA.out.1 g e))
              go_meet
              refine ⟨rfl, hXX, hPK, ?_, ?_⟩
              · rw [List.length_append, List.map_append]; exact own3
              · intro g' e'
                simp [Value.ownBlock] at e'
                subst e'
                rcases hH3 with e | e
                · exact hA2.out _ e
                · have h1 := hpb.out
                  simp at e
                  refine ⟨by omega, fun e2 => ?_⟩
                  have := h1.2 _ e2
                  omega
            · have hno : ¬ (vld z = true ∧ X.length < 200) := fun h => h2 h.2
              rw [appX_no hno] at hy
              unfold appK at hk
              rw [hv, if_pos rfl, if_neg h2] at hk
              subst hk
              subst hy
              clear hno HK HYX hv HVB
              have h3 : (200 : Int) ≤ (X.length : Int) := by omega
              go_wp2_with fail
              go_meet
              exact ⟨rfl, hbw, HP, HA⟩
        case rest =>
          as_aux_lemma =>
          obtain ⟨rfl, hbw', HP', HA'⟩ := hcut
          have hcell' : wc.cell? (ad.add j) = some (.int .i64 z) := by
            obtain ⟨ad2, e, _, hc3⟩ := (hr.ext hbw').getI HGJ.out
            obtain rfl : ad = ad2 := by injection e
            exact hc3
          have hYl : Y.length ≤ 200 := by rw [← HYX.out]; exact appX_len hXl
          have HYV : Hid (allV Y = true) := by show _ = _; rw [← HYX.out]; exact appX_allV HV.out
          obtain ⟨A9, c9, rfl, hc9, R9, -⟩ := own_rd HA'.out.1
          have hA9 := Lib.hid HA'.out.2
          clear R9
          go_wp2_with fail
          refine (Append_any HP'.out hbw'.size HV.out z).mono ?_
          rw [HK.out, HYX.out]
          rintro _ w4 ⟨rfl, r4, hp4, ht4, hr4⟩
          have X4 : Ext w w4 := HP'.out.step hbw' (Nat.le_refl _) ht4
          have o4 := Lib.hid (own_two HA'.out.1 ht4 hA9.out)
          have hlt4 := Lib.hid fun g e => (HA'.out.1.lt g e).2
          have HP4 := Lib.hid hp4
          have hA4 : Hid (∀ g, (Value.slice A9 Y.length c9).ownBlock = some g → g ≠ pb ∧ r4 ≠ some g) := by
            intro g e
            have h1 := hA9.out g e
            refine ⟨h1.1, ?_⟩
            rcases hr4 with rfl | h
            · exact h1.2
            · intro e2
              have := h g e2
              have := hlt4.out g e
              omega
          clear hp4 ht4 hr4
          go_wp2_with fail
          refine (Error_same k _ (hg.ext X4)).mono ?_
          rintro _ w5 ⟨rfl, hb5⟩
          have X5 := X4.trans hb5
          have HP5 := Lib.hid (HP4.out.ext hb5)
          go_wp2_with fail
          refine (HP5.out.size).mono ?_
          rintro _ _ ⟨rfl, rfl⟩
          go_wp2_with fail
          go_roundw
          case rel => exact ⟨j + 1, r4, Y, by go_num, by omega, by omega, hYl, HYV, X5, HP5, own_ext o4.out hb5, hA4.out⟩
          case measure => simp [intOf]; omega
      · have hfin : Ext w wr ∧ Pk wr w.heap.size pb r X ∧ OwnI w wr u8 X := ⟨hbw, HP.out, HA.out.1⟩
        have HF := Lib.hid hfin
        clear hfin
        by_cases h1 : j < n
        · obtain rfl : j = 210 := by omega
          go_wp2_with fail
          go_meet
          exact ⟨r, X, hXl, HV.out, HF.out⟩
        · obtain rfl : j = n := by omega
          go_wp2_with fail
          go_meet
          exact ⟨r, X, hXl, HV.out, HF.out⟩
  case rest =>
  as_aux_lemma =>
  obtain ⟨r, X, hXl, hXv, X2, hPK, own2⟩ := hcut
  clear HP1 hb1
  obtain ⟨A8, c8, rfl, hc8, R8⟩ := own2.rd
  have hms8 : c8 ≤ 9223372036854775807 := by unfold maxLen at hc8; omega
  have hlc8 := R8.2.1
  have HP := Lib.hid hPK
  have HV := Lib.hid hXv
  obtain ⟨PL, HPL⟩ : ∃ l, Hid ((partsF X 0 X.length).reverse = l) := ⟨_, rfl⟩
  clear hPK own2
  go_wp2_with fail
  refine (Parts_any HP.out (by omega)).mono ?_
  rw [HPL.out]
  rintro _ w3 ⟨⟨v3, rfl, own3⟩, hb3⟩
  obtain ⟨A3, c3, rfl, hc3, R3⟩ := own3.rd
  have X3 := X2.trans hb3
  clear own3
  go_wp2_with fail
  refine (RParts_any A8 X.length c8 X _ (R8.ext hb3) hc8 (by omega) HV.out).mono ?_
  rw [HPL.out]
  rintro _ w4 ⟨⟨v4, rfl, own4⟩, hb4⟩
  obtain ⟨A4, c4, rfl, hc4, R4⟩ := own4.rd
  have X4 := X3.trans hb4
  clear own4
  go_wp2_with fail
  refine (Ints_any A3 A4 _ _ c3 c4 _ _ _ (R3.ext hb4) R4 hc3 hc4).mono ?_
  rw [sameB_self]
  rintro _ w5 ⟨rfl, hb5⟩
  have X5 := X4.trans hb5
  have HP5 := Lib.hid (((HP.out.ext hb3).ext hb4).ext hb5)
  have R5 := ((R8.ext hb3).ext hb4).ext hb5
  clear X2 X3 X4 hb3 hb4 hb5 R3 R4 R8 HP
  clear HPL
  go_wp2_with fail
  refine (PRoot_any HP5.out hXl HV.out).mono ?_
  rintro _ w6 ⟨rfl, hb6⟩
  have X6 := X5.trans hb6
  go_wp2_with fail
  refine (RRoot_any X.length A8 X.length c8 X _ (Nat.le_refl _) (R5.ext hb6) hc8 (by omega) HV.out).mono ?_
  rintro _ w7 ⟨rfl, hb7⟩
  have X7 := X6.trans hb7
  clear X5 X6 hb6 hb7 R5 HP5
  generalize ofL X = rx at *
  clear HV hXl hXv
  obtain ⟨k, HK⟩ : ∃ k, Hid (ofK size ys = k) := ⟨_, rfl⟩
  obtain ⟨tb, HTB⟩ : ∃ tb : Bool, Hid (tb = decide (size < 0 ∨ 200 < size)) := ⟨_, rfl⟩
  go_upto_region 20 with (fail)
  go_cut [83] (fun v wc => v = .bool tb ∧ w7 = wc)
  case first =>
    as_aux_lemma =>
    have h : size < 0 ∨ (0 ≤ size ∧ 200 < size) ∨ (0 ≤ size ∧ size ≤ 200) := by omega
    rcases h with h | ⟨h, h'⟩ | ⟨h, h'⟩
    all_goals
      have hb := HTB.out
      first
        | rw [decide_eq_true (by omega)] at hb
        | rw [decide_eq_false (by omega)] at hb
      subst hb
      go_wp2_with fail
      go_meet
      exact ⟨by first | rfl | (congr 1; simp; omega), rfl⟩
  case rest =>
  as_aux_lemma =>
  obtain ⟨rfl, rfl⟩ := hcut
  go_upto_if 83 with (fail)
  go_cut [14, 15] (fun e _ wc => e = .int .i64 k ∧ w7 = wc)
  case first =>
    as_aux_lemma =>
    have hk := HK.out
    have hb := HTB.out
    by_cases h1 : size < 0 ∨ 200 < size
    · rw [ofK_range h1] at hk
      rw [decide_eq_true h1] at hb
      subst hk
      subst hb
      clear h1 HK HTB
      go_wp2_with fail
      go_meet
      exact ⟨rfl, rfl⟩
    · rw [decide_eq_false h1] at hb
      subst hb
      obtain ⟨m, rfl⟩ := Int.eq_ofNat_of_zero_le (show 0 ≤ size by omega)
      have hm4 : m ≤ 200 := by omega
      have hol := ones_le m m (Nat.le_refl _)
      by_cases h2 : ys.length ≠ ones m
      · rw [ofK_len h1 (by rw [Int.toNat_natCast]; exact h2)] at hk
        rw [HY.out] at h2
        subst hk
        have hne : ((n2 : Int) == ((ones m : Nat) : Int)) = false := by simp; omega
        clear h1 HK HTB h2
        go_wp2_with fail
        refine (ROnes_any m _ (by omega)).mono ?_
        rintro _ _ ⟨rfl, rfl⟩
        generalize ones m = q at *
        go_wp2_with fail
        go_meet
        exact ⟨rfl, rfl⟩
      · rw [ofK_val h1 (by rw [Int.toNat_natCast]; exact h2)] at hk
        rw [HY.out] at h2
        have hq : n2 = ones m := by omega
        clear h1 HK HTB h2
        go_wp2_with fail
        refine (ROnes_any m _ (by omega)).mono ?_
        rintro _ _ ⟨rfl, rfl⟩
        generalize ones m = q at *
        subst hq
        go_wp2_with fail
        refine (RAll_any A2 _ c2 ys _ (hr2.ext X7) hm2).mono ?_
        cases hv : allV ys
        · rw [hv, if_neg (by decide)] at hk
          subst hk
          rintro _ _ ⟨rfl, rfl⟩
          go_wp2_with fail
          go_meet
          exact ⟨rfl, rfl⟩
        · rw [hv, if_pos rfl] at hk
          subst hk
          rintro _ _ ⟨rfl, rfl⟩
          go_wp2_with fail
          go_meet
          exact ⟨rfl, rfl⟩
  case rest =>
  as_aux_lemma =>
  obtain ⟨rfl, rfl⟩ := hcut
  clear HTB
  go_wp2_with fail
  refine (POf_any size A2 n2 c2 ys _ (hr2.ext X7) hm2).mono ?_
  rintro e w8 ⟨hpost, hb8⟩
  have X8 := X7.trans hb8
  unfold OfPost at hpost
  rw [HK.out] at hpost
  rcases hpost with ⟨hk0, rfl⟩ | ⟨rfl, qb, vq, rfl, hq⟩
  · have hk1 : (k == 0) = false := by simp [hk0]
    clear hk0
    go_wp2_with fail
    refine (Error_same k _ (hg.ext X8)).mono ?_
    rintro _ w9 ⟨rfl, hb9⟩
    have X9 := X8.trans hb9
    go_wp2_with fail
    go_ret
    exact ⟨rfl, X9⟩
  · go_wp2_with fail
    refine (Error_same 0 _ (hg.ext X8)).mono ?_
    rintro _ w9 ⟨rfl, hb9⟩
    have X9 := X8.trans hb9
    have hq9 := Lib.hid (hq.ext hb9)
    obtain ⟨z1, z2, z3⟩ := ofK_zero HK.out
    have hsz : ((size.toNat : Nat) : Int) = size := Int.toNat_of_nonneg z1
    have hyl : ys.length ≤ 4096 := by have := ones_le size.toNat _ (Nat.le_refl _); omega
    have X7' := X7
    clear hq HK z3 z1 z2
    go_wp2_with fail
    refine (PParts_any hq9.out (by rw [List.length_reverse]; exact hyl)).mono ?_
    rw [List.reverse_reverse]
    rintro _ w10 ⟨⟨v10, rfl, own10⟩, hb10⟩
    obtain ⟨A10, c10, rfl, hc10, R10⟩ := own10.rd
    have X10 := X9.trans hb10
    have hq10 := Lib.hid (hq9.out.ext hb10)
    clear own10
    have hyn : ys.length = n2 := HY.out
    rw [hyn] at R10 ⊢
    clear hyn hyl
    go_wp2_with fail
    refine (Ints_any A10 A2 _ _ c10 c2 ys ys _ R10 (hr2.ext X10) hc10 hm2).mono ?_
    rw [sameB_self]
    rintro _ w11 ⟨rfl, hb11⟩
    have X11 := X10.trans hb11
    have hq11 := Lib.hid (hq10.out.ext hb11)
    go_wp2_with fail
    refine (PSize_any hq11.out).mono ?_
    rw [hsz]
    rintro _ _ ⟨rfl, rfl⟩
    go_wp2_with fail
    go_ret
    exact ⟨rfl, X11⟩
end Go.Proofs.YtgfkalhpefjenaaDoor.peaksTell
