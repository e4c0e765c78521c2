import Derived.Test.YtgfkalhpefjenaaDoorBT4
import Derived.Test.YtgfkalhpefjenaaDoorR5
import Derived.Test.YtgfkalhpefjenaaDoorQuiet
import Derived.Deep.DeepCutAuto
import Derived.Deep.CutBlock
namespace Go.Proofs.YtgfkalhpefjenaaDoor.batchTells
open Go.RowKit
set_option linter.unusedVariables false
attribute [local go_sem ↓] Go.wp_at_zero Go.wp_at_succ

/-- the reference's fault, step by step -/
theorem makeK_steps (xs l : List Int) : makeK xs l = (if (if leafsK xs = 0 then placesK (xs.length : Int) l else leafsK xs) = 0 ∧ xs.length = 0 then 3 else (if leafsK xs = 0 then placesK (xs.length : Int) l else leafsK xs)) := by
  unfold makeK
  by_cases h : leafsOk xs
  · rw [if_neg (not_not_intro h), if_pos (leafsK_ok h)]
    by_cases h2 : placesK (xs.length : Int) l = 0
    · rw [if_neg (not_not_intro h2)]
      by_cases h3 : xs.length = 0
      · rw [if_pos h3, if_pos ⟨h2, h3⟩]
      · rw [if_neg h3, if_neg (fun h => h3 h.2), h2]
    · rw [if_pos h2, if_neg (fun h => h2 h.1)]
  · rw [if_pos h, if_neg (leafsK_bad h), if_neg (fun h2 => leafsK_bad h h2.1), leafsK_err h]

set_option maxRecDepth 100000 in
set_option maxHeartbeats 8000000 in
theorem walk (A : Option Addr) (n c : Nat) (xs : List Int) (A1 : Option Addr) (n1 c1 : Nat) (ys : List Int) (root size : Int) (A4 : Option Addr) (n4 c4 : Nat) (q : List Int) (A5 : Option Addr) (n5 c5 : Nat) (p : List Int) (w : World)
    (hl : xs.length = n) (hm : c ≤ maxLen) (hr : Rd w 1 A n c (xs.map (Value.int .i64))) (hgd : ∀ y ∈ xs, igood y) (hl1 : ys.length = n1) (hm1 : c1 ≤ maxLen) (hr1 : Rd w 1 A1 n1 c1 (ys.map (Value.int .i64))) (hgd1 : ∀ y ∈ ys, igood y) (h2 : igood root) (h3 : igood size)
    (hl4 : q.length = n4) (hm4 : c4 ≤ maxLen) (hr4 : Rd w 1 A4 n4 c4 (q.map (Value.int .i64))) (hgd4 : ∀ y ∈ q, igood y) (hl5 : p.length = n5) (hm5 : c5 ≤ maxLen) (hr5 : Rd w 1 A5 n5 c5 (p.map (Value.int .i64))) (hgd5 : ∀ y ∈ p, igood y) (hg : ErrG w) :
    Calls Tryd.prog 16 #[.slice A n c, .slice A1 n1 c1, .int .i64 root, .int .i64 size, .slice A4 n4 c4, .slice A5 n5 c5] w fun e w' => e = .returned (.bool true) ∧ Ext w w' := by
  have hlc := hr.2.1
  have hlc1 := hr1.2.1
  have hlc4 := hr4.2.1
  have hlc5 := hr5.2.1
  have HX := Lib.hid hl
  have HX1 := Lib.hid hl1
  have HX4 := Lib.hid hl4
  have HX5 := Lib.hid hl5
  have hms : c ≤ 9223372036854775807 := by unfold maxLen at hm; omega
  have hms1 : c1 ≤ 9223372036854775807 := by unfold maxLen at hm1; omega
  have hms4 : c4 ≤ 9223372036854775807 := by unfold maxLen at hm4; omega
  have hms5 : c5 ≤ 9223372036854775807 := by unfold maxLen at hm5; omega
  obtain ⟨k0, HK0⟩ : ∃ k, Hid (leafsK xs = k) := ⟨_, rfl⟩
  obtain ⟨pk, HPK⟩ : ∃ k, Hid (placesK (n : Int) ys = k) := ⟨_, rfl⟩
  obtain ⟨k1, HK1⟩ : ∃ k : Int, Hid (k = if k0 = 0 then pk else k0) := ⟨_, rfl⟩
  obtain ⟨mk, HMK⟩ : ∃ k, Hid (makeK xs ys = k) := ⟨_, rfl⟩
  obtain ⟨mv, HMV⟩ : ∃ k, Hid (makeV xs ys = k) := ⟨_, rfl⟩
  have HMS : Hid (mk = if k1 = 0 ∧ n = 0 then 3 else k1) := by
    show _ = _
    rw [← HMK.out, makeK_steps, HX.out, HK0.out, HPK.out, ← HK1.out]
  obtain ⟨lk, HLK⟩ : ∃ k, Hid (longK size ys = k) := ⟨_, rfl⟩
  obtain ⟨lv, HLV⟩ : ∃ k, Hid (longV size ys = k) := ⟨_, rfl⟩
  obtain ⟨ba, HBA⟩ : ∃ k, Hid (vld root = k) := ⟨_, rfl⟩
  obtain ⟨bb, HBB⟩ : ∃ k, Hid (allV q = k) := ⟨_, rfl⟩
  obtain ⟨bc, HBC⟩ : ∃ k, Hid (allV p = k) := ⟨_, rfl⟩
  obtain ⟨bk, HBK⟩ : ∃ k, Hid (bchK root size ys q p = k) := ⟨_, rfl⟩
  clear hl hl1 hl4 hl5 hgd hgd1 hgd4 hgd5 h2 h3
  go_enter Tryd.func16, Tryd.ntmps16
  go_wp2_with fail
  refine (RLeafs_tot A n c xs _ hr hm).mono ?_
  rw [HK0.out]
  rintro _ _ ⟨rfl, rfl⟩
  obtain ⟨tb, HTB⟩ : ∃ tb : Bool, Hid (tb = decide (k0 = 0)) := ⟨_, rfl⟩
  go_upto_region 2 with (fail)
  go_cut [32] (fun v wc => v = .bool tb ∧ w = wc)
  case first =>
    as_aux_lemma =>
    have hb := HTB.out
    by_cases h : k0 = 0
    · subst h
      rw [decide_eq_true rfl] at hb
      subst hb
      go_wp2_with fail
      go_meet
      exact ⟨rfl, rfl⟩
    · rw [decide_eq_false h] at hb
      subst hb
      have a1' : (k0 == 0) = false := by simp [h]
      clear h
      go_wp2_with fail
      go_meet
      exact ⟨rfl, rfl⟩
  case rest =>
  as_aux_lemma =>
  obtain ⟨rfl, rfl⟩ := hcut
  go_upto_if 32 with (fail)
  go_cut [13] (fun v wc => v = .int .i64 k1 ∧ Ext w wc)
  case first =>
    as_aux_lemma =>
    have hb := HTB.out
    have hk := HK1.out
    by_cases h : k0 = 0
    · rw [decide_eq_true h] at hb
      rw [if_pos h] at hk
      subst hb
      subst hk
      clear h HTB HK1 HMS
      go_wp2_with fail
      refine (SPlaces_any (n : Int) A1 n1 c1 ys _ hr1 hm1).mono ?_
      rw [HPK.out]
      rintro _ w1 ⟨rfl, hb1⟩
      go_wp2_with fail
      go_meet
      exact ⟨rfl, hb1⟩
    · rw [decide_eq_false h] at hb
      rw [if_neg h] at hk
      subst hb
      subst hk
      clear h HTB HK1 HMS
      go_wp2_with fail
      go_meet
      exact ⟨rfl, Ext.refl _⟩
  case rest =>
  as_aux_lemma =>
  obtain ⟨rfl, X1⟩ := hcut
  obtain ⟨tc, HTC⟩ : ∃ tb : Bool, Hid (tb = decide (k1 = 0 ∧ n = 0)) := ⟨_, rfl⟩
  go_upto_region 4 with (fail)
  go_cut [43] (fun v w' => v = .bool tc ∧ wc = w')
  case first =>
    as_aux_lemma =>
    have hb := HTC.out
    by_cases h : k1 = 0
    · by_cases h' : n = 0
      · rw [decide_eq_true ⟨h, h'⟩] at hb
        subst hb
        subst h'
        have a1 : (k1 == 0) = true := by simp [h]
        clear h HMS HK1
        go_wp2_with fail
        go_meet
        exact ⟨rfl, rfl⟩
      · rw [decide_eq_false (fun x => h' x.2)] at hb
        subst hb
        have a1 : (k1 == 0) = true := by simp [h]
        have a2 : ((n : Int) == 0) = false := by simp; omega
        clear h HMS HK1
        go_wp2_with fail
        go_meet
        exact ⟨rfl, rfl⟩
    · rw [decide_eq_false (fun x => h x.1)] at hb
      subst hb
      have a1 : (k1 == 0) = false := by simp [h]
      clear h HMS HK1
      go_wp2_with fail
      go_meet
      exact ⟨rfl, rfl⟩
  case rest =>
  as_aux_lemma =>
  obtain ⟨rfl, rfl⟩ := hcut
  go_upto_if 43 with (fail)
  go_cut [13] (fun v w' => v = .int .i64 mk ∧ wc = w')
  case first =>
    as_aux_lemma =>
    have hb := HTC.out
    have hm' := HMS.out
    by_cases h : k1 = 0 ∧ n = 0
    · rw [decide_eq_true h] at hb
      rw [if_pos h] at hm'
      subst hb
      subst hm'
      clear h HTC HMS HMK
      go_wp2_with fail
      go_meet
      exact ⟨rfl, rfl⟩
    · rw [decide_eq_false h] at hb
      rw [if_neg h] at hm'
      subst hb
      subst hm'
      clear h HTC HMS HMK
      go_wp2_with fail
      go_meet
      exact ⟨rfl, rfl⟩
  case rest =>
  as_aux_lemma =>
  obtain ⟨rfl, rfl⟩ := hcut
  clear HTB HTC HMS HK1
  obtain ⟨td, HTD⟩ : ∃ tb : Bool, Hid (tb = decide (mk = 0)) := ⟨_, rfl⟩
  go_upto_region 7 with (fail)
  go_cut [45] (fun v w' => v = .bool td ∧ wc = w')
  case first =>
    as_aux_lemma =>
    have hb := HTD.out
    by_cases h : mk = 0
    · rw [decide_eq_true h] at hb
      subst hb
      have a1 : (mk == 0) = true := by simp [h]
      clear h
      go_wp2_with fail
      go_meet
      exact ⟨rfl, rfl⟩
    · rw [decide_eq_false h] at hb
      subst hb
      have a1 : (mk == 0) = false := by simp [h]
      clear h
      go_wp2_with fail
      go_meet
      exact ⟨rfl, rfl⟩
  case rest =>
  as_aux_lemma =>
  obtain ⟨rfl, rfl⟩ := hcut
  go_upto_if 45 with (fail)
  go_cut [14] (fun v w' => OwnI wc w' v mv ∧ Ext wc w')
  case first =>
    as_aux_lemma =>
    have hb := HTD.out
    have hmv := HMV.out
    unfold makeV at hmv
    by_cases h : mk = 0
    · rw [decide_eq_true h] at hb
      have hk0 : makeK xs ys = 0 := HMK.out.trans h
      rw [if_pos hk0] at hmv
      obtain ⟨a1, a2, a3⟩ := makeK_zero hk0
      obtain ⟨a4, a5, a6⟩ := placesK_zero a2
      have hpa := partL_all a5
      have HPW := Lib.hid (rises_pairwise a6)
      have HALL := Lib.hid a1
      have hlx := HX.out
      have hlen := a1.1
      rw [hlx] at hmv hpa a3 hlen
      have HRES : Hid (provL xs 0 n (partL ys 0 n) = mv) := by show _ = _; rw [hpa]; exact hmv
      subst hb
      clear h HTD hmv hk0 a2 a5 a6 hpa hlx a1 HMV HMK
      go_wp2_with fail
      refine (Several_any A n c xs hm HALL.out.2 A1 n1 c1 ys hm1 HPW.out n 0 n _ (Nat.le_refl _) a3 (by omega) (by omega) (hr.ext X1) (hr1.ext X1)).mono ?_
      rw [HRES.out]
      rintro _ w1 ⟨⟨v1, rfl, o1⟩, hb1⟩
      go_wp2_with fail
      go_meet
      exact ⟨o1, hb1⟩
    · rw [decide_eq_false h] at hb
      rw [if_neg (fun x => h (HMK.out.symm.trans x))] at hmv
      subst hb
      subst hmv
      clear h HTD HMV
      go_wp2_with fail
      go_meet
      exact ⟨own_nil _ _ _ _, Ext.refl _⟩
  case rest =>
  as_aux_lemma =>
  obtain ⟨o2, hb2⟩ := hcut
  obtain ⟨A6, c6, rfl, hc6, R6⟩ := o2.rd
  have X2 := X1.trans hb2
  clear o2 HTD X1 hb2
  go_wp2_with fail
  refine (BMake_any A A1 n c n1 c1 xs ys _ (hr.ext X2) hm (hr1.ext X2) hm1).mono ?_
  rw [HMK.out, HMV.out]
  rintro _ w3 ⟨⟨v3, rfl, o3⟩, hb3⟩
  obtain ⟨A7, c7, rfl, hc7, R7⟩ := o3.rd
  have X3 := X2.trans hb3
  clear o3
  go_wp2_with fail
  refine (Error_same mk _ (hg.ext X3)).mono ?_
  rintro _ w4 ⟨rfl, hb4⟩
  have X4 := X3.trans hb4
  go_wp2_with fail
  refine (Ints_any A7 A6 _ _ c7 c6 mv mv _ (R7.ext hb4) ((R6.ext hb3).ext hb4) hc7 hc6).mono ?_
  rw [sameB_self]
  rintro _ w5 ⟨rfl, hb5⟩
  have X5 := X4.trans hb5
  clear X2 X3 X4 hb3 hb4 hb5 R6 R7
  obtain ⟨te, HTE⟩ : ∃ tb : Bool, Hid (tb = decide (size < 1 ∨ 200 < size)) := ⟨_, rfl⟩
  go_upto_region 13 with (fail)
  go_cut [68] (fun v wc => v = .bool te ∧ w5 = wc)
  case first =>
    as_aux_lemma =>
    have h : size < 1 ∨ (1 ≤ size ∧ 200 < size) ∨ (1 ≤ size ∧ size ≤ 200) := by omega
    rcases h with h | ⟨h, h'⟩ | ⟨h, h'⟩
    all_goals
      have hb := HTE.out
      first
        | rw [decide_eq_true (by omega)] at hb
        | rw [decide_eq_false (by omega)] at hb
      subst hb
      go_wp2_with fail
      go_meet
      exact ⟨by first | rfl | (congr 1; simp; omega), rfl⟩
  case rest =>
  as_aux_lemma =>
  obtain ⟨rfl, rfl⟩ := hcut
  go_upto_if 68 with (fail)
  go_cut [13] (fun v wc => v = .int .i64 lk ∧ Ext w5 wc)
  case first =>
    as_aux_lemma =>
    have hb := HTE.out
    have hk := HLK.out
    unfold longK at hk
    by_cases h : size < 1 ∨ 200 < size
    · rw [decide_eq_true h] at hb
      rw [if_pos h] at hk
      subst hb
      subst hk
      clear h HTE HLK
      go_wp2_with fail
      go_meet
      exact ⟨rfl, Ext.refl _⟩
    · rw [decide_eq_false h] at hb
      rw [if_neg h] at hk
      subst hb
      clear h HTE HLK
      go_wp2_with fail
      refine (SPlaces_any size A1 n1 c1 ys _ (hr1.ext X5) hm1).mono ?_
      rw [hk]
      rintro _ w6 ⟨rfl, hb6⟩
      go_wp2_with fail
      go_meet
      exact ⟨rfl, hb6⟩
  case rest =>
  as_aux_lemma =>
  obtain ⟨rfl, hb6⟩ := hcut
  have X6 := X5.trans hb6
  clear HTE X5 hb6
  obtain ⟨tf, HTF⟩ : ∃ tb : Bool, Hid (tb = decide (lk = 0)) := ⟨_, rfl⟩
  go_upto_region 17 with (fail)
  go_cut [73] (fun v w' => v = .bool tf ∧ wc = w')
  case first =>
    as_aux_lemma =>
    have hb := HTF.out
    by_cases h : lk = 0
    · rw [decide_eq_true h] at hb
      subst hb
      have a1 : (lk == 0) = true := by simp [h]
      clear h
      go_wp2_with fail
      go_meet
      exact ⟨rfl, rfl⟩
    · rw [decide_eq_false h] at hb
      subst hb
      have a1 : (lk == 0) = false := by simp [h]
      clear h
      go_wp2_with fail
      go_meet
      exact ⟨rfl, rfl⟩
  case rest =>
  as_aux_lemma =>
  obtain ⟨rfl, rfl⟩ := hcut
  go_upto_if 73 with (fail)
  go_cut [19] (fun v w' => v = .int .i64 (lv : Nat) ∧ wc = w')
  case first =>
    as_aux_lemma =>
    have hb := HTF.out
    have hlv := HLV.out
    unfold longV at hlv
    by_cases h : lk = 0
    · rw [decide_eq_true h] at hb
      have hk0 : longK size ys = 0 := HLK.out.trans h
      rw [if_pos hk0] at hlv
      obtain ⟨a1, a2, a3⟩ := longK_zero hk0
      obtain ⟨s, rfl⟩ := Int.eq_ofNat_of_zero_le (show 0 ≤ size by omega)
      obtain ⟨a4, a5, a6⟩ := placesK_zero a3
      have hpa := partL_all a5
      have HPW := Lib.hid (rises_pairwise a6)
      rw [Int.toNat_natCast] at hlv
      have HRES : Hid ((provL [] 0 s (partL ys 0 s)).length = lv) := by show _ = _; rw [hpa]; exact hlv
      have b1 : 1 ≤ s := by omega
      have b2 : s ≤ 200 := by omega
      subst hb
      clear h HTF hlv hk0 a1 a2 a3 a5 a6 hpa HLV HLK
      go_wp2_with fail
      refine (SLong_any [] A1 n1 c1 ys hm1 HPW.out s 0 s _ (Nat.le_refl _) b1 (by omega) (hr1.ext X6)).mono ?_
      rw [HRES.out]
      rintro _ _ ⟨rfl, rfl⟩
      go_wp2_with fail
      go_meet
      exact ⟨rfl, rfl⟩
    · rw [decide_eq_false h] at hb
      rw [if_neg (fun x => h (HLK.out.symm.trans x))] at hlv
      subst hb
      subst hlv
      clear h HTF HLV
      go_wp2_with fail
      go_meet
      exact ⟨rfl, rfl⟩
  case rest =>
  as_aux_lemma =>
  obtain ⟨rfl, rfl⟩ := hcut
  clear HTF
  go_wp2_with fail
  refine (BLong_any size A1 n1 c1 ys _ (hr1.ext X6) hm1).mono ?_
  rw [HLV.out, HLK.out]
  rintro _ w7 ⟨rfl, hb7⟩
  have X7 := X6.trans hb7
  go_wp2_with fail
  refine (Error_same lk _ (hg.ext X7)).mono ?_
  rintro _ w8 ⟨rfl, hb8⟩
  have X8 := X7.trans hb8
  go_wp2_with fail
  refine (RValid_any root _).mono ?_
  rw [HBA.out]
  rintro _ _ ⟨rfl, rfl⟩
  go_wp2_with fail
  refine (RAll_any A4 n4 c4 q _ (hr4.ext X8) hm4).mono ?_
  rw [HBB.out]
  rintro _ _ ⟨rfl, rfl⟩
  go_wp2_with fail
  refine (RAll_any A5 n5 c5 p _ (hr5.ext X8) hm5).mono ?_
  rw [HBC.out]
  rintro _ _ ⟨rfl, rfl⟩
  clear X6 X7 hb7 hb8
  obtain ⟨tg, HTG⟩ : ∃ tb : Bool, Hid (tb = decide (lk = 0 ∧ ¬ (ba = true ∧ bb = true ∧ bc = true))) := ⟨_, rfl⟩
  go_upto_region 24 with (fail)
  go_cut [105] (fun v w' => v = .bool tg ∧ w8 = w')
  case first =>
    as_aux_lemma =>
    have hb := HTG.out
    clear HBA HBB HBC HBK HTG
    by_cases h : lk = 0
    · have a1 : (lk == 0) = true := by simp [h]
      cases ba
      · rw [decide_eq_true ⟨h, by simp⟩] at hb
        subst hb
        clear h
        go_wp2_with fail
        go_meet
        exact ⟨rfl, rfl⟩
      · cases bb
        · rw [decide_eq_true ⟨h, by simp⟩] at hb
          subst hb
          clear h
          go_wp2_with fail
          go_meet
          exact ⟨rfl, rfl⟩
        · cases bc
          · rw [decide_eq_true ⟨h, by simp⟩] at hb
            subst hb
            clear h
            go_wp2_with fail
            go_meet
            exact ⟨rfl, rfl⟩
          · rw [decide_eq_false (fun x => x.2 ⟨rfl, rfl, rfl⟩)] at hb
            subst hb
            clear h
            go_wp2_with fail
            go_meet
            exact ⟨rfl, rfl⟩
    · rw [decide_eq_false (fun x => h x.1)] at hb
      subst hb
      have a1 : (lk == 0) = false := by simp [h]
      clear h
      go_wp2_with fail
      go_meet
      exact ⟨rfl, rfl⟩
  case rest =>
  as_aux_lemma =>
  obtain ⟨rfl, rfl⟩ := hcut
  go_upto_if 105 with (fail)
  go_cut [13, 25, 26, 27] (fun v _ _ _ w' => v = .int .i64 bk ∧ Ext w8 w')
  case first =>
    as_aux_lemma =>
    have hb := HTG.out
    have hbk := HBK.out
    clear HTG HBK
    by_cases h : lk = 0
    · have a1 : (lk == 0) = true := by simp [h]
      have hk0 : longK size ys = 0 := HLK.out.trans h
      by_cases h2 : ba = true ∧ bb = true ∧ bc = true
      · rw [decide_eq_false (fun x => x.2 h2)] at hb
        subst hb
        have h2' : vld root = true ∧ allV q = true ∧ allV p = true := by rw [HBA.out, HBB.out, HBC.out]; exact h2
        by_cases h3 : n4 = n1 ∧ n5 = lv
        · have h3' : q.length = ys.length ∧ p.length = longV size ys := by rw [HX4.out, HX1.out, HX5.out, HLV.out]; exact h3
          rw [bchK_ok hk0 h2' h3'] at hbk
          have hlv := HLV.out
          obtain ⟨rfl, rfl⟩ := h3
          unfold longV at hlv
          rw [if_pos hk0] at hlv
          obtain ⟨b1, b2, b3⟩ := longK_zero hk0
          obtain ⟨s, rfl⟩ := Int.eq_ofNat_of_zero_le (show 0 ≤ size by omega)
          obtain ⟨b4, b5, b6⟩ := placesK_zero b3
          rw [Int.toNat_natCast] at hlv hbk
          obtain ⟨v, hv⟩ := walkC_some [] s 0 s ys p q (Nat.le_refl _) (by omega) (by omega) (placesK_part b3) h2'.2.2 h2'.2.1 (by rw [HX5.out, hlv]; exact Nat.le_refl _) (by rw [h3'.1]; exact Nat.le_refl _)
          have hu : upV s ys q p = v := by unfold upV; rw [hv]; rfl
          rw [hu] at hbk
          have hpa := partL_all b5
          rw [← hpa] at hv
          have HV := Lib.hid hv
          have HPW := Lib.hid (rises_pairwise b6)
          have c1' : 1 ≤ s := by omega
          have c2' : s ≤ 200 := by omega
          by_cases h4 : v = root
          · unfold rootK at hbk
            rw [if_pos h4] at hbk
            subst h4
            subst hbk
            have HL := Lib.hid h
            clear h hk0 h2 h2' h3' hlv b1 b2 b3 b4 b5 b6 hv hu hpa HLK HLV HBA HBB HBC HMK HMV HK0 HPK
            go_wp2_with fail
            refine (Upward_any A1 n4 c1 ys hm1 HPW.out s 0 s A4 A5 n4 c4 n5 c5 q p v _ _ (Nat.le_refl _) c1' (by omega) (hr1.ext X8) (hr4.ext X8) hm4 (hr5.ext X8) hm5 HV.out).mono ?_
            rintro _ w9 ⟨⟨A8, c8, A9, c9, rfl, -, -, -, -⟩, hb9⟩
            go_wp2_with fail
            go_meet
            exact ⟨by rw [HL.out], hb9⟩
          · unfold rootK at hbk
            rw [if_neg h4] at hbk
            subst hbk
            have a2 : (v == root) = false := by simp [h4]
            clear h hk0 h2 h2' h3' hlv b1 b2 b3 b4 b5 b6 hv hu hpa h4 HLK HLV HBA HBB HBC HMK HMV HK0 HPK
            go_wp2_with fail
            refine (Upward_any A1 n4 c1 ys hm1 HPW.out s 0 s A4 A5 n4 c4 n5 c5 q p v _ _ (Nat.le_refl _) c1' (by omega) (hr1.ext X8) (hr4.ext X8) hm4 (hr5.ext X8) hm5 HV.out).mono ?_
            rintro _ w9 ⟨⟨A8, c8, A9, c9, rfl, -, -, -, -⟩, hb9⟩
            go_wp2_with fail
            go_meet
            exact ⟨rfl, hb9⟩
        · have h3' : ¬ (q.length = ys.length ∧ p.length = longV size ys) := by rw [HX4.out, HX1.out, HX5.out, HLV.out]; exact h3
          rw [bchK_len hk0 h2' h3'] at hbk
          subst hbk
          have hh : (n4 ≠ n1) ∨ (n4 = n1 ∧ n5 ≠ lv) := by omega
          clear h hk0 h2 h2' h3' h3 HLK HLV HBA HBB HBC HMK HMV HK0 HPK
          rcases hh with hh | ⟨rfl, hh⟩
          · have e1 : ((n4 : Int) == (n1 : Int)) = false := by simp; omega
            clear hh
            go_wp2_with fail
            go_meet
            exact ⟨rfl, Ext.refl _⟩
          · have e1 : ((n5 : Int) == (lv : Int)) = false := by simp; omega
            clear hh
            go_wp2_with fail
            go_meet
            exact ⟨rfl, Ext.refl _⟩
      · rw [decide_eq_true ⟨h, h2⟩] at hb
        have h2' : ¬ (vld root = true ∧ allV q = true ∧ allV p = true) := by rw [HBA.out, HBB.out, HBC.out]; exact h2
        rw [bchK_vld hk0 h2'] at hbk
        subst hb
        subst hbk
        clear h hk0 h2 h2' HLK HLV HBA HBB HBC HMK HMV HK0 HPK
        go_wp2_with fail
        go_meet
        exact ⟨rfl, Ext.refl _⟩
    · rw [decide_eq_false (fun x => h x.1)] at hb
      have hk0 : longK size ys ≠ 0 := fun x => h (HLK.out.symm.trans x)
      rw [bchK_long hk0, HLK.out] at hbk
      subst hb
      subst hbk
      have a1 : (lk == 0) = false := by simp [h]
      clear h hk0 HLK HLV HBA HBB HBC HMK HMV HK0 HPK
      go_wp2_with fail
      go_meet
      exact ⟨rfl, Ext.refl _⟩
  case rest =>
  as_aux_lemma =>
  obtain ⟨rfl, hb9⟩ := hcut
  have X9 := X8.trans hb9
  clear HTG X8 hb9 HBA HBB HBC HMK HMV HK0 HPK
  go_wp2_with fail
  refine (BCheck_any root size A1 A4 A5 n1 c1 n4 c4 n5 c5 ys q p _ (hr1.ext X9) hm1 (hr4.ext X9) hm4 (hr5.ext X9) hm5).mono ?_
  rw [HBK.out]
  rintro _ w10 ⟨rfl, hb10⟩
  have X10 := X9.trans hb10
  go_wp2_with fail
  refine (Error_same bk _ (hg.ext X10)).mono ?_
  rintro _ w11 ⟨rfl, hb11⟩
  have X11 := X10.trans hb11
  go_wp2_with fail
  go_ret
  exact ⟨rfl, X11⟩
end Go.Proofs.YtgfkalhpefjenaaDoor.batchTells
