/- the references' Head, Signed, Verify. -/
import Derived.Test.YtelcabjhbgkfmaaGreatDoorHds
import Derived.Test.YtelcabjhbgkfmaaGreatDoorR1
namespace Go.Proofs.YtelcabjhbgkfmaaGreatDoor
open Go.RowKit Go.WideShapes
set_option linter.unusedVariables false
attribute [local go_sem ↓] Go.wp_at_zero Go.wp_at_succ

set_option maxRecDepth 100000 in
set_option maxHeartbeats 1000000 in
theorem RHead_any (h : Hd) (w : World) : Calls Tryz.prog 9 #[h.val] w fun e w' => e = .returned (.int .i64 (hdK h)) ∧ Ext w w' := by
  obtain ⟨hk, hhk⟩ : ∃ v, hdK h = v := ⟨_, rfl⟩
  have H1 : Hid (h.ok = true → hk = 0) := Lib.hid fun ho => by rw [← hhk]; exact if_pos ho
  have H2 : Hid (h.ok = false → hk = 1) := Lib.hid fun ho => by rw [← hhk]; exact if_neg (by rw [ho]; decide)
  rw [hhk]
  clear hhk
  have cs : (h.ok = false ∧ ((h.size < 0) ∨ (0 ≤ h.size ∧ 200 < h.size) ∨ (0 ≤ h.size ∧ h.size ≤ 200 ∧ h.time < 0) ∨ (0 ≤ h.size ∧ h.size ≤ 200 ∧ 0 ≤ h.time ∧ 1000000 < h.time) ∨ (0 ≤ h.size ∧ h.size ≤ 200 ∧ 0 ≤ h.time ∧ h.time ≤ 1000000 ∧ (vld h.root = false ∨ vld h.root = true ∧ vld h.sign = false)))) ∨ (h.ok = true ∧ 0 ≤ h.size ∧ h.size ≤ 200 ∧ 0 ≤ h.time ∧ h.time ≤ 1000000 ∧ vld h.root = true ∧ vld h.sign = true) := by
    cases ho : h.ok with
    | true => obtain ⟨a, b, c, d, e, f⟩ := Hd.ok_parts ho; exact .inr ⟨rfl, a, b, c, d, e, f⟩
    | false =>
      have hn := Hd.not_ok ho
      refine .inl ⟨rfl, ?_⟩
      by_cases q1 : h.size < 0
      · exact .inl q1
      by_cases q2 : 200 < h.size
      · exact .inr (.inl ⟨by omega, q2⟩)
      by_cases q3 : h.time < 0
      · exact .inr (.inr (.inl ⟨by omega, by omega, q3⟩))
      by_cases q4 : 1000000 < h.time
      · exact .inr (.inr (.inr (.inl ⟨by omega, by omega, by omega, q4⟩)))
      refine .inr (.inr (.inr (.inr ⟨by omega, by omega, by omega, by omega, ?_⟩)))
      cases hr : vld h.root with
      | false => exact .inl rfl
      | true =>
        cases hs : vld h.sign with
        | false => exact .inr ⟨rfl, rfl⟩
        | true => exact absurd ⟨by omega, by omega, by omega, by omega, hr, hs⟩ hn
  have HV1 := Lib.hid fun W => RValid_any h.root W
  have HV2 := Lib.hid fun W => RValid_any h.sign W
  obtain ⟨vr, hvr⟩ : ∃ v, vld h.root = v := ⟨_, rfl⟩
  obtain ⟨vs, hvs⟩ : ∃ v, vld h.sign = v := ⟨_, rfl⟩
  rw [hvr] at HV1 cs
  rw [hvs] at HV2 cs
  clear hvr hvs
  obtain ⟨ob, hob⟩ : ∃ v, h.ok = v := ⟨_, rfl⟩
  rw [hob] at H1 H2 cs
  clear hob
  obtain ⟨a, b, c, d⟩ := h
  simp only at cs HV1 HV2
  simp only [Hd.val]
  have B0 := Bk.at_ w 23 #[.int .i64 a, .int .i64 b, .int .i64 c, .int .i64 d] w.heap.size rfl
  have e0 : Ext w (w.alloc (.cells #[.int .i64 a, .int .i64 b, .int .i64 c, .int .i64 d] 23)) := by (repeat (with_reducible first | exact Ext.refl _ | assumption | refine Ext.drew ?_ | refine Ext.drewN ?_ _ | refine Ext.alloc ?_ _ | refine Ext.trans ?_ (by with_reducible assumption)))
  obtain ⟨g0, hg0⟩ : ∃ g, w.heap.size = g := ⟨_, rfl⟩
  rw [hg0] at B0
  have y0 := B0.cell 0
  have y1 := B0.cell 1
  have y2 := B0.cell 2
  have y3 := B0.cell 3
  go_enter Tryz.func9, Tryz.ntmps9
  go_upto_region 1 with (fail)
  try rw [hg0]
  generalize w.alloc (.cells #[.int .i64 a, .int .i64 b, .int .i64 c, .int .i64 d] 23) = W0 at *
  have HE0 := Lib.hid e0
  clear e0 hg0 B0
  go_wp2_with fail
  refine (HV1.out _).mono ?_
  rintro _ _ ⟨rfl, rfl⟩
  go_wp2_with fail
  refine (HV2.out _).mono ?_
  rintro _ _ ⟨rfl, rfl⟩
  clear HV1 HV2
  rcases cs with ⟨rfl, q⟩ | ⟨rfl, q1, q2, q3, q4, rfl, rfl⟩
  · obtain rfl := H2.out rfl
    rcases q with q1 | ⟨q1, q2⟩ | ⟨q1, q2, q3⟩ | ⟨q1, q2, q3, q4⟩ | ⟨q1, q2, q3, q4, rfl | ⟨rfl, rfl⟩⟩
    all_goals
      go_wp2_with fail
      go_ret
      exact ⟨rfl, HE0.out⟩
  · obtain rfl := H1.out rfl
    go_wp2_with fail
    go_ret
    exact ⟨rfl, HE0.out⟩

set_option maxRecDepth 100000 in
set_option maxHeartbeats 1000000 in
theorem RSigned_any (h : Hd) (key : Int) (w : World) (k : 0 ≤ h.size ∧ h.size ≤ 200 ∧ 0 ≤ h.time ∧ h.time ≤ 1000000) (hv : vld h.root = true) (hk : keyI key = true) :
    Calls Tryz.prog 20 #[h.val, .int .i64 key] w fun e w' => e = .returned (.int .i64 (signI h key)) ∧ Ext w w' := by
  obtain ⟨s1, s2, s3⟩ := signB_sizes k hk
  have s4 := hexT_size h.root.toNat
  have HSG : Hid (signI h key = sumL (four4 (digB h.size.toNat) (hexT h.root.toNat) (digB h.time.toNat) (digB key.toNat)).data.toList) := rfl
  obtain ⟨k1, k2, k3, k4⟩ := k
  obtain ⟨k5, k6⟩ := keyI_true hk
  obtain ⟨k7, k8⟩ := vld_true hv
  obtain ⟨a, b, c, d⟩ := h
  simp only at k1 k2 k3 k4 k7 k8 s1 s2 s4 hv
  obtain ⟨a, rfl⟩ := Int.eq_ofNat_of_zero_le k1
  obtain ⟨b, rfl⟩ := Int.eq_ofNat_of_zero_le k7
  obtain ⟨c, rfl⟩ := Int.eq_ofNat_of_zero_le k3
  obtain ⟨ky, rfl⟩ := Int.eq_ofNat_of_zero_le (show 0 ≤ key by omega)
  simp only [Int.toNat_natCast] at s1 s2 s3 s4 HSG
  have HI1 := Lib.hid fun W => RDigits_any a a W (Nat.le_refl _) (by omega)
  have HI2 := Lib.hid fun W => RDigits_any c c W (Nat.le_refl _) (by omega)
  have HI3 := Lib.hid fun W => RDigits_any ky ky W (Nat.le_refl _) (by omega)
  have HT := Lib.hid fun W => RText_any b W (by omega)
  obtain ⟨t1, ht1⟩ : ∃ t, digB a = t := ⟨_, rfl⟩
  obtain ⟨t2, ht2⟩ : ∃ t, hexT b = t := ⟨_, rfl⟩
  obtain ⟨t3, ht3⟩ : ∃ t, digB c = t := ⟨_, rfl⟩
  obtain ⟨t4, ht4⟩ : ∃ t, digB ky = t := ⟨_, rfl⟩
  rw [ht1] at HI1 HSG s1
  rw [ht2] at HT HSG s4
  rw [ht3] at HI2 HSG s2
  rw [ht4] at HI3 HSG s3
  have hz : (four4 t1 t2 t3 t4).size ≤ maxLen := by rw [four4_size]; unfold maxLen; omega
  have HSM := Lib.hid fun W => RSum_any (four4 t1 t2 t3 t4) W hz
  rw [← HSG.out] at HSM
  have HF : Hid (four4 t1 t2 t3 t4 = t1 ++ ⟨#[32]⟩ ++ t2 ++ ⟨#[32]⟩ ++ t3 ++ ⟨#[32]⟩ ++ t4) := rfl
  rw [HF.out] at HSM
  obtain ⟨sg, hsg⟩ : ∃ s, signI ⟨(a : Int), (b : Int), (c : Int), d⟩ (ky : Int) = s := ⟨_, rfl⟩
  rw [hsg] at HSM
  rw [hsg]
  have B0 := Bk.at_ w 23 #[.int .i64 a, .int .i64 b, .int .i64 c, .int .i64 d] w.heap.size rfl
  have e0 : Ext w (w.alloc (.cells #[.int .i64 a, .int .i64 b, .int .i64 c, .int .i64 d] 23)) := by (repeat (with_reducible first | exact Ext.refl _ | assumption | refine Ext.drew ?_ | refine Ext.drewN ?_ _ | refine Ext.alloc ?_ _ | refine Ext.trans ?_ (by with_reducible assumption)))
  clear hz ht1 ht2 ht3 ht4 hsg k1 k2 k3 k4 k5 k6 k7 k8 hv hk HSG
  obtain ⟨g0, hg0⟩ : ∃ g, w.heap.size = g := ⟨_, rfl⟩
  rw [hg0] at B0
  have y0 := B0.cell 0
  go_enter Tryz.func20, Tryz.ntmps20
  go_upto_region 1 with (fail)
  try rw [hg0]
  generalize w.alloc (.cells #[.int .i64 a, .int .i64 b, .int .i64 c, .int .i64 d] 23) = W0 at *
  have HE0 := Lib.hid e0
  clear e0 hg0
  go_wp2_with fail
  refine (HI1.out _).mono ?_
  rintro _ w1 ⟨rfl, hb1⟩
  have y1 := (B0.ext hb1).cell 1
  go_wp2_with fail
  refine (HT.out _).mono ?_
  rintro _ w2 ⟨rfl, hb2⟩
  have hb12 := hb1.trans hb2
  have y2 := (B0.ext hb12).cell 2
  go_wp2_with fail
  refine (HI2.out _).mono ?_
  rintro _ w3 ⟨rfl, hb3⟩
  go_wp2_with fail
  refine (HI3.out _).mono ?_
  rintro _ w4 ⟨rfl, hb4⟩
  go_wp2_with fail
  refine (HSM.out _).mono ?_
  rintro _ _ ⟨rfl, rfl⟩
  go_wp2_with fail
  go_ret
  exact ⟨rfl, HE0.out.trans ((hb12.trans hb3).trans hb4)⟩

set_option maxRecDepth 100000 in
set_option maxHeartbeats 1000000 in
theorem RVerify_any (h : Hd) (key : Int) (w : World) :
    Calls Tryz.prog 17 #[h.val, .int .i64 key] w fun e w' => e = .returned (.int .i64 (verK h key)) ∧ Ext w w' := by
  have HK := Lib.hid fun W => RKeyB_any key W
  have HC := Lib.hid fun W => RHead_any h W
  have HSG : Hid (keyI key = true → h.ok = true → ∀ W, Calls Tryz.prog 20 #[h.val, .int .i64 key] W fun e w' => e = .returned (.int .i64 (signI h key)) ∧ Ext W w') := Lib.hid fun hk ho W => by
    obtain ⟨a1, a2, a3, a4, a5, a6⟩ := Hd.ok_parts ho
    exact RSigned_any h key W ⟨a1, a2, a3, a4⟩ a5 hk
  have HV1 : Hid (keyI key = false → verK h key = 1) := Lib.hid fun hk => by unfold verK; rw [if_neg (by rw [hk]; simp)]
  have HV2 : Hid (h.ok = false → verK h key = 1) := Lib.hid fun ho => by unfold verK; rw [if_neg (by rw [ho]; simp)]
  have HV3 : Hid (keyI key = true → h.ok = true → verK h key = if h.sign = signI h key then 0 else 9) := Lib.hid fun hk ho => by unfold verK; rw [if_pos (by rw [hk, ho]; rfl)]
  have HC1 : Hid (h.ok = true → hdK h = 0) := Lib.hid fun ho => if_pos ho
  have HC2 : Hid (h.ok = false → hdK h = 1) := Lib.hid fun ho => if_neg (by rw [ho]; decide)
  obtain ⟨v, hv⟩ : ∃ v, verK h key = v := ⟨_, rfl⟩
  rw [hv] at HV1 HV2 HV3
  rw [hv]
  obtain ⟨sg, hsg⟩ : ∃ v, signI h key = v := ⟨_, rfl⟩
  rw [hsg] at HV3 HSG
  obtain ⟨kb, hkb⟩ : ∃ v, keyI key = v := ⟨_, rfl⟩
  obtain ⟨ob, hob⟩ : ∃ v, h.ok = v := ⟨_, rfl⟩
  obtain ⟨hk, hhk⟩ : ∃ v, hdK h = v := ⟨_, rfl⟩
  rw [hkb] at HK HSG HV1 HV3
  rw [hob] at HSG HV2 HV3 HC1 HC2
  rw [hhk] at HC HC1 HC2
  obtain ⟨a, b, c, d⟩ := h
  simp only [Hd.val] at *
  have B0 := Bk.at_ w 23 #[.int .i64 a, .int .i64 b, .int .i64 c, .int .i64 d] w.heap.size rfl
  have e0 : Ext w (w.alloc (.cells #[.int .i64 a, .int .i64 b, .int .i64 c, .int .i64 d] 23)) := by (repeat (with_reducible first | exact Ext.refl _ | assumption | refine Ext.drew ?_ | refine Ext.drewN ?_ _ | refine Ext.alloc ?_ _ | refine Ext.trans ?_ (by with_reducible assumption)))
  clear hv hsg hkb hob hhk
  obtain ⟨g0, hg0⟩ : ∃ g, w.heap.size = g := ⟨_, rfl⟩
  rw [hg0] at B0
  have y0 := B0.cell 0
  have y1 := B0.cell 1
  have y2 := B0.cell 2
  have y3 := B0.cell 3
  go_enter Tryz.func17, Tryz.ntmps17
  go_upto_region 1 with (fail)
  try rw [hg0]
  generalize w.alloc (.cells #[.int .i64 a, .int .i64 b, .int .i64 c, .int .i64 d] 23) = W0 at *
  have HE0 := Lib.hid e0
  clear e0 hg0
  cases kb with
  | false =>
    obtain rfl := HV1.out rfl
    go_wp2_with fail
    refine (HK.out _).mono ?_
    rintro _ _ ⟨rfl, rfl⟩
    go_wp2_with fail
    go_ret
    exact ⟨rfl, HE0.out⟩
  | true =>
    cases ob with
    | false =>
      obtain rfl := HV2.out rfl
      obtain rfl := HC2.out rfl
      go_wp2_with fail
      refine (HK.out _).mono ?_
      rintro _ _ ⟨rfl, rfl⟩
      go_wp2_with fail
      refine (HC.out _).mono ?_
      rintro _ w2 ⟨rfl, hb2⟩
      go_wp2_with fail
      go_ret
      exact ⟨rfl, HE0.out.trans hb2⟩
    | true =>
      have hv3 := HV3.out rfl rfl
      obtain rfl := HC1.out rfl
      have HS := Lib.hid (HSG.out rfl rfl)
      go_wp2_with fail
      refine (HK.out _).mono ?_
      rintro _ _ ⟨rfl, rfl⟩
      go_wp2_with fail
      refine (HC.out _).mono ?_
      rintro _ w2 ⟨rfl, hb2⟩
      have e2 := HE0.out.trans hb2
      have B2 := B0.ext hb2
      have x0 : ∀ x : WE w2, x.W.cell? ⟨g0, 0, none⟩ = some (.int .i64 a) := fun x => (B2.ext x.h).cell 0
      have x1 : ∀ x : WE w2, x.W.cell? ⟨g0, 1, none⟩ = some (.int .i64 b) := fun x => (B2.ext x.h).cell 1
      have x2 : ∀ x : WE w2, x.W.cell? ⟨g0, 2, none⟩ = some (.int .i64 c) := fun x => (B2.ext x.h).cell 2
      have x3 : ∀ x : WE w2, x.W.cell? ⟨g0, 3, none⟩ = some (.int .i64 d) := fun x => (B2.ext x.h).cell 3
      have HV := Lib.hid hv3
      clear hv3 y0 y1 y2 y3
      go_upto_region 4 with (fail)
      (refine wp_region_ext (w0 := w2) (by kernel_rfl) (by kernel_rfl) (by (repeat (with_reducible first | exact Ext.refl _ | assumption | refine Ext.drew ?_ | refine Ext.drewN ?_ _ | refine Ext.alloc ?_ _ | refine Ext.trans ?_ (by with_reducible assumption)))) ?_; (repeat (go_big_quiet_step ((go_at_call 20; exact quietE (HS.out _))))); refine wpQuiet_nil ?_)
      intro w3 hb3
      clear x0 x1 x2 x3
      by_cases hs : d = sg
      · obtain rfl : v = 0 := HV.out.trans (if_pos hs)
        subst hs
        go_wp2_with fail
        go_ret
        exact ⟨rfl, e2.trans hb3⟩
      · obtain rfl : v = 9 := HV.out.trans (if_neg hs)
        have hs2 : (d == sg) = false := by simp [hs]
        go_wp2_with fail
        go_ret
        exact ⟨rfl, e2.trans hb3⟩
end Go.Proofs.YtelcabjhbgkfmaaGreatDoor
