/- the references' Head, Signed, Verify. -/
import Derived.Test.YtdefdcaeiojmeaaGreatDoorJServeProves11
import Derived.Test.YtdefdcaeiojmeaaGreatDoorJServeProves8
import Derived.Test.YtdefdcaeiojmeaaGreatDoorJServeProves12
import Derived.Test.YtdefdcaeiojmeaaGreatDoorJServeProves19
import Derived.Test.YtdefdcaeiojmeaaGreatDoorJServeProves18
namespace Go.Proofs.YtdefdcaeiojmeaaGreatDoor
open Go.RowKit Go.WideShapes
set_option linter.unusedVariables false
attribute [local go_sem ↓] Go.wp_at_zero Go.wp_at_succ

set_option maxRecDepth 100000 in
set_option maxHeartbeats 1000000 in
theorem RHead_any (h : Hd) (w : World) : Calls Tryz.prog 110 #[h.val] w fun e w' => e = .returned (.int .i64 (hdK h)) ∧ Ext w w' := by
  obtain ⟨hk, hhk⟩ : ∃ v, hdK h = v := ⟨_, rfl⟩
  have H1 : Hid (h.ok = true → hk = 0) := Lib.hid fun ho => by rw [← hhk]; exact if_pos ho
  have H2 : Hid (h.ok = false → hk = 1) := Lib.hid fun ho => by rw [← hhk]; exact if_neg (by rw [ho]; decide)
  rw [hhk]
  clear hhk
  have cs : (h.ok = false ∧ ((h.size < 0) ∨ (0 ≤ h.size ∧ 200 < h.size) ∨ (0 ≤ h.size ∧ h.size ≤ 200 ∧ h.time < 0) ∨ (0 ≤ h.size ∧ h.size ≤ 200 ∧ 0 ≤ h.time ∧ 1000000 < h.time) ∨ (0 ≤ h.size ∧ h.size ≤ 200 ∧ 0 ≤ h.time ∧ h.time ≤ 1000000 ∧ (vld h.root = false ∨ vld h.root = true ∧ vld h.sign = false)))) ∨ (h.ok = true ∧ 0 ≤ h.size ∧ h.size ≤ 200 ∧ 0 ≤ h.time ∧ h.time ≤ 1000000 ∧ vld h.root = true ∧ vld h.sign = true) := by
    cases ho : h.ok with
    | true => obtain ⟨a, b, c, d, e, f⟩ := Hd.ok_parts ho; exact .inr ⟨rfl, a, b, c, d, e, f⟩
    | false =>
      have hn := Hd.not_ok ho
      refine .inl ⟨rfl, ?_⟩
      by_cases q1 : h.size < 0
      · exact .inl q1
      by_cases q2 : 200 < h.size
      · exact .inr (.inl ⟨by omega, q2⟩)
      by_cases q3 : h.time < 0
      · exact .inr (.inr (.inl ⟨by omega, by omega, q3⟩))
      by_cases q4 : 1000000 < h.time
      · exact .inr (.inr (.inr (.inl ⟨by omega, by omega, by omega, q4⟩)))
      refine .inr (.inr (.inr (.inr ⟨by omega, by omega, by omega, by omega, ?_⟩)))
      cases hr : vld h.root with
      | false => exact .inl rfl
      | true =>
        cases hs : vld h.sign with
        | false => exact .inr ⟨rfl, rfl⟩
        | true => exact absurd ⟨by omega, by omega, by omega, by omega, hr, hs⟩ hn
  have HV1 := Lib.hid fun W => RValid_any h.root W
  have HV2 := Lib.hid fun W => RValid_any h.sign W
  obtain ⟨vr, hvr⟩ : ∃ v, vld h.root = v := ⟨_, rfl⟩
  obtain ⟨vs, hvs⟩ : ∃ v, vld h.sign = v := ⟨_, rfl⟩
  rw [hvr] at HV1 cs
  rw [hvs] at HV2 cs
  clear hvr hvs
  obtain ⟨ob, hob⟩ : ∃ v, h.ok = v := ⟨_, rfl⟩
  rw [hob] at H1 H2 cs
  clear hob
  obtain ⟨a, b, c, d⟩ := h
  simp only at cs HV1 HV2
  simp only [Hd.val]
  have B0 := Bk.at_ w 40 #[.int .i64 a, .int .i64 b, .int .i64 c, .int .i64 d] w.heap.size rfl
  have e0 : Ext w (w.alloc (.cells #[.int .i64 a, .int .i64 b, .int .i64 c, .int .i64 d] 40)) := by (repeat (with_reducible first | exact Ext.refl _ | assumption | refine Ext.drew ?_ | refine Ext.drewN ?_ _ | refine Ext.alloc ?_ _ | refine Ext.trans ?_ (by with_reducible assumption)))
  obtain ⟨g0, hg0⟩ : ∃ g, w.heap.size = g := ⟨_, rfl⟩
  rw [hg0] at B0
  have y0 := B0.cell 0
  have y1 := B0.cell 1
  have y2 := B0.cell 2
  have y3 := B0.cell 3
  go_enter Tryz.func110, Tryz.ntmps110
  go_upto_region 1 with (fail)
  try rw [hg0]
  generalize w.alloc (.cells #[.int .i64 a, .int .i64 b, .int .i64 c, .int .i64 d] 40) = W0 at *
  have HE0 := Lib.hid e0
  clear e0 hg0 B0
  go_wp2_with fail
  refine (HV1.out _).mono ?_
  rintro _ _ ⟨rfl, rfl⟩
  go_wp2_with fail
  refine (HV2.out _).mono ?_
  rintro _ _ ⟨rfl, rfl⟩
  clear HV1 HV2
  rcases cs with ⟨rfl, q⟩ | ⟨rfl, q1, q2, q3, q4, rfl, rfl⟩
  · obtain rfl := H2.out rfl
    rcases q with q1 | ⟨q1, q2⟩ | ⟨q1, q2, q3⟩ | ⟨q1, q2, q3, q4⟩ | ⟨q1, q2, q3, q4, rfl | ⟨rfl, rfl⟩⟩
    all_goals
      go_wp2_with fail
      go_ret
      exact ⟨rfl, HE0.out⟩
  · obtain rfl := H1.out rfl
    go_wp2_with fail
    go_ret
    exact ⟨rfl, HE0.out⟩

set_option maxRecDepth 100000 in
set_option maxHeartbeats 1000000 in
theorem RSigned_any (h : Hd) (key : Int) (w : World) (k : 0 ≤ h.size ∧ h.size ≤ 200 ∧ 0 ≤ h.time ∧ h.time ≤ 1000000) (hv : vld h.root = true) (hk : keyI key = true) :
    Calls Tryz.prog 111 #[h.val, .int .i64 key] w fun e w' => e = .returned (.int .i64 (signI h key)) ∧ Ext w w' := by
  obtain ⟨s1, s2, s3⟩ := signB_sizes k hk
  have s4 := hexT_size h.root.toNat
  have HSG : Hid (signI h key = sumL (four4 (digB h.size.toNat) (hexT h.root.toNat) (digB h.time.toNat) (digB key.toNat)).data.toList) := rfl
  obtain ⟨k1, k2, k3, k4⟩ := k
  obtain ⟨k5, k6⟩ := keyI_true hk
  obtain ⟨k7, k8⟩ := vld_true hv
  obtain ⟨a, b, c, d⟩ := h
  simp only at k1 k2 k3 k4 k7 k8 s1 s2 s4 hv
  obtain ⟨a, rfl⟩ := Int.eq_ofNat_of_zero_le k1
  obtain ⟨b, rfl⟩ := Int.eq_ofNat_of_zero_le k7
  obtain ⟨c, rfl⟩ := Int.eq_ofNat_of_zero_le k3
  obtain ⟨ky, rfl⟩ := Int.eq_ofNat_of_zero_le (show 0 ≤ key by omega)
  simp only [Int.toNat_natCast] at s1 s2 s3 s4 HSG
  have HI1 := Lib.hid fun W => RDigits_any a a W (Nat.le_refl _) (by omega)
  have HI2 := Lib.hid fun W => RDigits_any c c W (Nat.le_refl _) (by omega)
  have HI3 := Lib.hid fun W => RDigits_any ky ky W (Nat.le_refl _) (by omega)
  have HT := Lib.hid fun W => RText_any b W (by omega)
  obtain ⟨t1, ht1⟩ : ∃ t, digB a = t := ⟨_, rfl⟩
  obtain ⟨t2, ht2⟩ : ∃ t, hexT b = t := ⟨_, rfl⟩
  obtain ⟨t3, ht3⟩ : ∃ t, digB c = t := ⟨_, rfl⟩
  obtain ⟨t4, ht4⟩ : ∃ t, digB ky = t := ⟨_, rfl⟩
  rw [ht1] at HI1 HSG s1
  rw [ht2] at HT HSG s4
  rw [ht3] at HI2 HSG s2
  rw [ht4] at HI3 HSG s3
  have hz : (four4 t1 t2 t3 t4).size ≤ maxLen := by rw [four4_size]; unfold maxLen; omega
  have HSM := Lib.hid fun W => RSum_any (four4 t1 t2 t3 t4) W hz
  rw [← HSG.out] at HSM
  have HF : Hid (four4 t1 t2 t3 t4 = t1 ++ ⟨#[32]⟩ ++ t2 ++ ⟨#[32]⟩ ++ t3 ++ ⟨#[32]⟩ ++ t4) := rfl
  rw [HF.out] at HSM
  obtain ⟨sg, hsg⟩ : ∃ s, signI ⟨(a : Int), (b : Int), (c : Int), d⟩ (ky : Int) = s := ⟨_, rfl⟩
  rw [hsg] at HSM
  rw [hsg]
  have B0 := Bk.at_ w 40 #[.int .i64 a, .int .i64 b, .int .i64 c, .int .i64 d] w.heap.size rfl
  have e0 : Ext w (w.alloc (.cells #[.int .i64 a, .int .i64 b, .int .i64 c, .int .i64 d] 40)) := by (repeat (with_reducible first | exact Ext.refl _ | assumption | refine Ext.drew ?_ | refine Ext.drewN ?_ _ | refine Ext.alloc ?_ _ | refine Ext.trans ?_ (by with_reducible assumption)))
  clear hz ht1 ht2 ht3 ht4 hsg k1 k2 k3 k4 k5 k6 k7 k8 hv hk HSG
  obtain ⟨g0, hg0⟩ : ∃ g, w.heap.size = g := ⟨_, rfl⟩
  rw [hg0] at B0
  have y0 := B0.cell 0
  go_enter Tryz.func111, Tryz.ntmps111
  go_upto_region 1 with (fail)
  try rw [hg0]
  generalize w.alloc (.cells #[.int .i64 a, .int .i64 b, .int .i64 c, .int .i64 d] 40) = W0 at *
  have HE0 := Lib.hid e0
  clear e0 hg0
  go_wp2_with fail
  refine (HI1.out _).mono ?_
  rintro _ w1 ⟨rfl, hb1⟩
  have y1 := (B0.ext hb1).cell 1
  go_wp2_with fail
  refine (HT.out _).mono ?_
  rintro _ w2 ⟨rfl, hb2⟩
  have hb12 := hb1.trans hb2
  have y2 := (B0.ext hb12).cell 2
  go_wp2_with fail
  refine (HI2.out _).mono ?_
  rintro _ w3 ⟨rfl, hb3⟩
  go_wp2_with fail
  refine (HI3.out _).mono ?_
  rintro _ w4 ⟨rfl, hb4⟩
  go_wp2_with fail
  refine (HSM.out _).mono ?_
  rintro _ _ ⟨rfl, rfl⟩
  go_wp2_with fail
  go_ret
  exact ⟨rfl, HE0.out.trans ((hb12.trans hb3).trans hb4)⟩

set_option maxRecDepth 100000 in
set_option maxHeartbeats 1000000 in
theorem RVerify_any (h : Hd) (key : Int) (w : World) :
    Calls Tryz.prog 82 #[h.val, .int .i64 key] w fun e w' => e = .returned (.int .i64 (verK h key)) ∧ Ext w w' := by
  have HK := Lib.hid fun W => RKeyB_any key W
  have HC := Lib.hid fun W => RHead_any h W
  have HSG : Hid (keyI key = true → h.ok = true → ∀ W, Calls Tryz.prog 111 #[h.val, .int .i64 key] W fun e w' => e = .returned (.int .i64 (signI h key)) ∧ Ext W w') := Lib.hid fun hk ho W => by
    obtain ⟨a1, a2, a3, a4, a5, a6⟩ := Hd.ok_parts ho
    exact RSigned_any h key W ⟨a1, a2, a3, a4⟩ a5 hk
  have HV1 : Hid (keyI key = false → verK h key = 1) := Lib.hid fun hk => by unfold verK; rw [if_neg (by rw [hk]; simp)]
  have HV2 : Hid (h.ok = false → verK h key = 1) := Lib.hid fun ho => by unfold verK; rw [if_neg (by rw [ho]; simp)]
  have HV3 : Hid (keyI key = true → h.ok = true → verK h key = if h.sign = signI h key then 0 else 9) := Lib.hid fun hk ho => by unfold verK; rw [if_pos (by rw [hk, ho]; rfl)]
  have HC1 : Hid (h.ok = true → hdK h = 0) := Lib.hid fun ho => if_pos ho
  have HC2 : Hid (h.ok = false → hdK h = 1) := Lib.hid fun ho => if_neg (by rw [ho]; decide)
  obtain ⟨v, hv⟩ : ∃ v, verK h key = v := ⟨_, rfl⟩
  rw [hv] at HV1 HV2 HV3
  rw [hv]
  obtain ⟨sg, hsg⟩ : ∃ v, signI h key = v := ⟨_, rfl⟩
  rw [hsg] at HV3 HSG
  obtain ⟨kb, hkb⟩ : ∃ v, keyI key = v := ⟨_, rfl⟩
  obtain ⟨ob, hob⟩ : ∃ v, h.ok = v := ⟨_, rfl⟩
  obtain ⟨hk, hhk⟩ : ∃ v, hdK h = v := ⟨_, rfl⟩
  rw [hkb] at HK HSG HV1 HV3
  rw [hob] at HSG HV2 HV3 HC1 HC2
  rw [hhk] at HC HC1 HC2
  obtain ⟨a, b, c, d⟩ := h
  simp only [Hd.val] at *
  have B0 := Bk.at_ w 40 #[.int .i64 a, .int .i64 b, .int .i64 c, .int .i64 d] w.heap.size rfl
  have e0 : Ext w (w.alloc (.cells #[.int .i64 a, .int .i64 b, .int .i64 c, .int .i64 d] 40)) := by (repeat (with_reducible first | exact Ext.refl _ | assumption | refine Ext.drew ?_ | refine Ext.drewN ?_ _ | refine Ext.alloc ?_ _ | refine Ext.trans ?_ (by with_reducible assumption)))
  clear hv hsg hkb hob hhk
  obtain ⟨g0, hg0⟩ : ∃ g, w.heap.size = g := ⟨_, rfl⟩
  rw [hg0] at B0
  have y0 := B0.cell 0
  have y1 := B0.cell 1
  have y2 := B0.cell 2
  have y3 := B0.cell 3
  go_enter Tryz.func82, Tryz.ntmps82
  go_upto_region 1 with (fail)
  try rw [hg0]
  generalize w.alloc (.cells #[.int .i64 a, .int .i64 b, .int .i64 c, .int .i64 d] 40) = W0 at *
  have HE0 := Lib.hid e0
  clear e0 hg0
  cases kb with
  | false =>
    obtain rfl := HV1.out rfl
    go_wp2_with fail
    refine (HK.out _).mono ?_
    rintro _ _ ⟨rfl, rfl⟩
    go_wp2_with fail
    go_ret
    exact ⟨rfl, HE0.out⟩
  | true =>
    cases ob with
    | false =>
      obtain rfl := HV2.out rfl
      obtain rfl := HC2.out rfl
      go_wp2_with fail
      refine (HK.out _).mono ?_
      rintro _ _ ⟨rfl, rfl⟩
      go_wp2_with fail
      refine (HC.out _).mono ?_
      rintro _ w2 ⟨rfl, hb2⟩
      go_wp2_with fail
      go_ret
      exact ⟨rfl, HE0.out.trans hb2⟩
    | true =>
      have hv3 := HV3.out rfl rfl
      obtain rfl := HC1.out rfl
      have HS := Lib.hid (HSG.out rfl rfl)
      go_wp2_with fail
      refine (HK.out _).mono ?_
      rintro _ _ ⟨rfl, rfl⟩
      go_wp2_with fail
      refine (HC.out _).mono ?_
      rintro _ w2 ⟨rfl, hb2⟩
      have e2 := HE0.out.trans hb2
      have B2 := B0.ext hb2
      have x0 : ∀ x : WE w2, x.W.cell? ⟨g0, 0, none⟩ = some (.int .i64 a) := fun x => (B2.ext x.h).cell 0
      have x1 : ∀ x : WE w2, x.W.cell? ⟨g0, 1, none⟩ = some (.int .i64 b) := fun x => (B2.ext x.h).cell 1
      have x2 : ∀ x : WE w2, x.W.cell? ⟨g0, 2, none⟩ = some (.int .i64 c) := fun x => (B2.ext x.h).cell 2
      have x3 : ∀ x : WE w2, x.W.cell? ⟨g0, 3, none⟩ = some (.int .i64 d) := fun x => (B2.ext x.h).cell 3
      have HV := Lib.hid hv3
      clear hv3 y0 y1 y2 y3
      go_upto_region 4 with (fail)
      (refine wp_region_ext (w0 := w2) (by kernel_rfl) (by kernel_rfl) (by (repeat (with_reducible first | exact Ext.refl _ | assumption | refine Ext.drew ?_ | refine Ext.drewN ?_ _ | refine Ext.alloc ?_ _ | refine Ext.trans ?_ (by with_reducible assumption)))) ?_; (repeat (go_big_quiet_step ((go_at_call 111; exact quietE (HS.out _))))); refine wpQuiet_nil ?_)
      intro w3 hb3
      clear x0 x1 x2 x3
      by_cases hs : d = sg
      · obtain rfl : v = 0 := HV.out.trans (if_pos hs)
        subst hs
        go_wp2_with fail
        go_ret
        exact ⟨rfl, e2.trans hb3⟩
      · obtain rfl : v = 9 := HV.out.trans (if_neg hs)
        have hs2 : (d == sg) = false := by simp [hs]
        go_wp2_with fail
        go_ret
        exact ⟨rfl, e2.trans hb3⟩
end Go.Proofs.YtdefdcaeiojmeaaGreatDoor

/- the references' Cut, Number, HeadText, ReadHead. -/
namespace Go.Proofs.YtdefdcaeiojmeaaGreatDoor
open Go.RowKit Go.WideShapes
set_option linter.unusedVariables false
attribute [local go_sem ↓] Go.wp_at_zero Go.wp_at_succ

theorem partsL_snoc {c b : UInt8} : ∀ {l : List UInt8} {out : List (List UInt8)} {last : List UInt8}, partsL c l = out ++ [last] → partsL c (l ++ [b]) = if b = c then out ++ [last] ++ [[]] else out ++ [last ++ [b]]
  | [], out, last, h => by
    have h1 : out = [] ∧ last = [] := by
      have h2 : ([[]] : List (List UInt8)) = out ++ [last] := h
      cases out with
      | nil => simp at h2; exact ⟨rfl, h2⟩
      | cons x r => simp at h2
    obtain ⟨rfl, rfl⟩ := h1
    by_cases hb : b = c
    · subst hb; rw [if_pos rfl]; exact partsL_hit b []
    · rw [if_neg hb]; exact partsL_one c [b] (by intro x hx; simp at hx; rw [hx]; exact hb)
  | x :: l, out, last, h => by
    by_cases hx : x = c
    · subst hx
      rw [partsL_hit] at h
      rw [List.cons_append, partsL_hit]
      cases out with
      | nil =>
        simp at h
        exact absurd h.2 (partsL_ne x l)
      | cons y r =>
        rw [List.cons_append] at h
        injection h with h1 h2
        subst h1
        rw [partsL_snoc (b := b) h2]
        split <;> rfl
    · obtain ⟨p, r, hp⟩ : ∃ p r, partsL c l = p :: r := by
        cases hh : partsL c l with
        | nil => exact absurd hh (partsL_ne c l)
        | cons p r => exact ⟨p, r, rfl⟩
      rw [partsL_miss hx hp] at h
      rw [List.cons_append]
      cases out with
      | nil =>
        obtain ⟨h1, rfl⟩ : x :: p = last ∧ r = [] := by simpa using h
        subst h1
        have ih := partsL_snoc (b := b) (l := l) (out := []) (last := p) hp
        by_cases hb : b = c
        · rw [if_pos hb] at ih ⊢
          rw [partsL_miss hx ih]; rfl
        · rw [if_neg hb] at ih ⊢
          rw [partsL_miss hx ih]; rfl
      | cons y o =>
        rw [List.cons_append] at h
        injection h with h1 h2
        subst h1 h2
        have ih := partsL_snoc (b := b) (l := l) (out := p :: o) (last := last) hp
        by_cases hb : b = c
        · rw [if_pos hb] at ih ⊢
          rw [partsL_miss hx (r := o ++ [last] ++ [[]]) (by rw [ih]; rfl)]; rfl
        · rw [if_neg hb] at ih ⊢
          rw [partsL_miss hx (r := o ++ [last ++ [b]]) (by rw [ih]; rfl)]; rfl
/-- cut up to a place -/
def CutS (c : UInt8) (l : List UInt8) (i f : Nat) (out : List (List UInt8)) : Prop := f ≤ i ∧ out.length ≤ i ∧ partsL c (l.take i) = out ++ [(l.take i).drop f]
theorem CutS.zero (c : UInt8) (l : List UInt8) : CutS c l 0 0 [] := ⟨Nat.le_refl _, Nat.le_refl _, by simp [partsL]⟩
theorem CutS.hit {c b : UInt8} {l : List UInt8} {i f : Nat} {out : List (List UInt8)} (h : CutS c l i f out) (hb : l[i]? = some b) (e : b = c) : CutS c l (i + 1) (i + 1) (out ++ [(l.take i).drop f]) := by
  obtain ⟨h1, h2, h3⟩ := h
  have hl := (List.getElem?_eq_some_iff.1 hb).1
  refine ⟨Nat.le_refl _, by rw [List.length_append]; simp; omega, ?_⟩
  have ht : l.take (i + 1) = l.take i ++ [b] := by rw [List.take_add_one, hb]; rfl
  rw [ht, partsL_snoc h3, if_pos e]
  congr 1
  rw [← ht, List.drop_of_length_le (by rw [List.length_take]; omega)]
theorem CutS.miss {c b : UInt8} {l : List UInt8} {i f : Nat} {out : List (List UInt8)} (h : CutS c l i f out) (hb : l[i]? = some b) (e : b ≠ c) : CutS c l (i + 1) f out := by
  obtain ⟨h1, h2, h3⟩ := h
  have hl := (List.getElem?_eq_some_iff.1 hb).1
  refine ⟨by omega, by omega, ?_⟩
  have ht : l.take (i + 1) = l.take i ++ [b] := by rw [List.take_add_one, hb]; rfl
  rw [ht, partsL_snoc h3, if_neg e, List.drop_append_of_le_length (by rw [List.length_take]; omega)]
theorem CutS.end_ {c : UInt8} {l : List UInt8} {f : Nat} {out : List (List UInt8)} (h : CutS c l l.length f out) : partsL c l = out ++ [l.drop f] := by
  have h3 := h.2.2
  rwa [List.take_length] at h3
theorem extract_list (s : ByteArray) (f i : Nat) (hi : i ≤ s.size) : (⟨((s.data.toList.take i).drop f).toArray⟩ : ByteArray) = s.extract f i := by
  apply ba_ext
  show ((s.data.toList.take i).drop f) = (s.extract f i).data.toList
  rw [ByteArray.data_extract, Array.toList_extract]
  simp [List.drop_take]
theorem info_strH : (Tryz.prog.info? 9).map (fun i => (i.zero, i.size, i.bytes)) = some (some (.string ⟨#[]⟩), 1, 16) := by kernel_rfl
def OwnS (w w' : World) (v : Value) (ss : List ByteArray) : Prop := w'.ownsRow w.heap.size 9 1 v ss.length (ss.map Value.string)
theorem oneS1 (s : ByteArray) : ∀ u ∈ [Value.string s], u.oneCell' = true := by intro u hu; simp at hu; subst hu; rfl
def baL (l : List UInt8) : ByteArray := ⟨l.toArray⟩

set_option maxRecDepth 100000 in
set_option maxHeartbeats 2000000 in
theorem RCut_any (s : ByteArray) (c : UInt8) (w : World) (hs : s.size ≤ 1048576) :
    Calls Tryz.prog 100 #[.string s, .int .u8 c.toNat] w fun e w' => (∃ v, e = .returned v ∧ OwnS w w' v (partsB c s)) ∧ Ext w w' := by
  obtain ⟨i0, hi0, hz0, hz1, hz2⟩ := info_parts info_strH
  have hsz : s.data.toList.length = s.size := rfl
  go_enter Tryz.func100, Tryz.ntmps100
  go_wp2_with fail
  go_loopw [5, 6, 7] (fun v f x wr => ∃ (i q : Nat) (out : List (List UInt8)), f = .int .i64 q ∧ x = .int .i64 i ∧ i ≤ s.size ∧ q ≤ i ∧ out.length ≤ i ∧ Ext w wr ∧ Hid (CutS c s.data.toList i q out) ∧ Hid (wr.ownsRow w.heap.size 9 1 v out.length ((out.map baL).map Value.string))) (fun _ _ x _ => s.size - (intOf x).toNat)
  case atStart => exact ⟨0, 0, [], rfl, rfl, Nat.zero_le _, Nat.le_refl _, Nat.le_refl _, Ext.refl _, CutS.zero _ _, own_nil _ _ _ _⟩
  case round =>
    obtain ⟨i, q, out, rfl, rfl, hi, hq, hol, hbw, HC, hown⟩ := hrel
    by_cases hc : i < s.size
    · have hgb := List.getElem?_eq_getElem (l := s.data.toList) (i := i) (by rw [hsz]; exact hc)
      have hbe : s.data.toList[i]'(by rw [hsz]; exact hc) = s[i] := rfl
      rw [hbe] at hgb
      have HGB := Lib.hid hgb
      have hbs := hbw.size
      by_cases hb : s[i] = c
      · have HN := Lib.hid (HC.out.hit HGB.out hb)
        have hx := extract_list s q i (by omega)
        have HX := Lib.hid hx
        have hb1 : (s[i].toNat == c.toNat) = true := by rw [hb]; simp
        have hbN : s[i].toNat = c.toNat := by rw [hb]
        clear hgb hbe hx hb
        go_wp2_with (at_builtin; refine wpl_app (by rfl) _ _ _ (by rfl) w.heap.size 9 i0 _ 1 16 Tryz.underlying142 hi0 hz0 hz1 hz2 rfl (by omega) u5 _ _ (by rfl) (own_ext hown.out ((Ext.refl _).alloc _)) wr.heap.size 1 [.string (s.extract q i)] rfl (by rfl) (news_new wr _ _ _ rfl) (oneS1 _) (by omega) (by omega) (by simp; omega) ?_; intro g cap w3 own3 hext3)
        go_roundw
        case rel => exact ⟨i + 1, i + 1, _, by go_num, by go_num, by omega, by omega, by rw [List.length_append]; simp; omega, hext3 _ (Nat.le_refl _) (by (repeat (with_reducible first | exact Ext.refl _ | assumption | refine Ext.drew ?_ | refine Ext.drewN ?_ _ | refine Ext.alloc ?_ _ | refine Ext.trans ?_ (by with_reducible assumption)))), HN, Lib.hid (by
          rw [List.length_append, List.map_append, List.map_append]
          have h2 := own3
          rw [← HX.out] at h2
          exact h2)⟩
        case measure => simp [intOf]; omega
      · have HN := Lib.hid (HC.out.miss HGB.out hb)
        have hbN : ¬ s[i].toNat = c.toNat := fun e => hb (UInt8.toNat_inj.1 e)
        have hbI : ((s[i].toNat : Int) == (c.toNat : Int)) = false := by simp; omega
        clear hgb hbe hb
        go_wp2_with fail
        go_roundw
        case rel => exact ⟨i + 1, q, out, rfl, by go_num, by omega, by omega, by omega, hbw, HN, hown⟩
        case measure => simp [intOf]; omega
    · obtain rfl : i = s.size := by omega
      have hE := HC.out
      rw [← hsz] at hE
      have HE := Lib.hid hE.end_
      have hx := extract_list s q s.size (Nat.le_refl _)
      rw [← hsz, List.take_length] at hx
      have HX := Lib.hid hx
      have hbs := hbw.size
      clear hE hx
      go_wp2_with (at_builtin; refine wpl_app (by rfl) _ _ _ (by rfl) w.heap.size 9 i0 _ 1 16 Tryz.underlying142 hi0 hz0 hz1 hz2 rfl (by omega) u5 _ _ (by rfl) (own_ext hown.out ((Ext.refl _).alloc _)) wr.heap.size 1 [.string (s.extract q s.size)] rfl (by rfl) (news_new wr _ _ _ rfl) (oneS1 _) (by omega) (by omega) (by simp; omega) ?_; intro g cap w3 own3 hext3)
      go_ret
      refine ⟨⟨_, rfl, ?_⟩, hext3 _ (Nat.le_refl _) (by (repeat (with_reducible first | exact Ext.refl _ | assumption | refine Ext.drew ?_ | refine Ext.drewN ?_ _ | refine Ext.alloc ?_ _ | refine Ext.trans ?_ (by with_reducible assumption))))⟩
      unfold OwnS partsB
      rw [HE.out, List.map_append, List.map_append, List.length_append, List.length_map]
      have h2 := own3
      rw [← hsz, ← HX.out] at h2
      exact h2

/-! ### Number -/
def numN (s : ByteArray) (m : Nat) : Int := match numR s m with | some v => (v : Int) | none => 0
theorem numN_some {s : ByteArray} {m v : Nat} (h : numR s m = some v) : numN s m = v := by unfold numN; rw [h]
theorem numN_none {s : ByteArray} {m : Nat} (h : numR s m = none) : numN s m = 0 := by unfold numN; rw [h]
theorem dec_stop {l : List UInt8} {j v : Nat} {b : UInt8} (h : Lib.decFrom 0 (l.take j) = some v) (hb : l[j]? = some b) : (Lib.digitVal b = none → Lib.decFrom 0 l = none) ∧ ∀ d, Lib.digitVal b = some d → Lib.decFrom 0 (l.take (j + 1)) = some (v * 10 + d) := by
  have ht : l.take (j + 1) = l.take j ++ [b] := by rw [List.take_add_one, hb]; rfl
  constructor
  · intro hd
    cases hl : Lib.decFrom 0 l with
    | none => rfl
    | some n =>
      obtain ⟨m, hm⟩ := Lib.decFrom_prefix l 0 n hl (j + 1)
      rw [ht, decFrom_snoc, h, hd] at hm
      cases hm
  · intro d hd
    rw [ht, decFrom_snoc, h, hd]; rfl
theorem dec_lt9 {l : List UInt8} {j v : Nat} (hj : j ≤ 9) (h : Lib.decFrom 0 (l.take j) = some v) : v < 1000000000 := by
  have h1 := Lib.decFrom_lt _ _ _ h
  have h2 : (l.take j).length ≤ 9 := by rw [List.length_take]; omega
  have h3 : 10 ^ (l.take j).length ≤ 10 ^ 9 := Nat.pow_le_pow_right (by decide) h2
  omega
theorem dig_yes {b : UInt8} (h : 48 ≤ b.toNat ∧ b.toNat ≤ 57) : Lib.digitVal b = some (b.toNat - 48) := if_pos h
theorem dig_no {b : UInt8} (h : ¬ (48 ≤ b.toNat ∧ b.toNat ≤ 57)) : Lib.digitVal b = none := if_neg h

set_option maxRecDepth 100000 in
set_option maxHeartbeats 2000000 in
theorem RNumber_any (s : ByteArray) (m : Nat) (w : World) (hm : m ≤ 9) :
    Calls Tryz.prog 103 #[.string s, .int .i64 m] w fun e w' => e = .returned (.tuple #[.int .i64 (numN s m), .bool (numR s m).isSome]) ∧ Ext w w' := by
  by_cases h0 : s.size = 0
  · have hno : numR s m = none := by unfold numR; rw [if_pos (.inl h0)]
    rw [numN_none hno, hno]
    have e1 : s.data.toList = [] := List.eq_nil_of_length_eq_zero h0
    obtain rfl := ba_extQ e1
    clear hno h0 e1
    go_enter Tryz.func103, Tryz.ntmps103
    go_wp2_with fail
    go_ret2
    exact ⟨rfl, Ext.refl _⟩
  obtain ⟨p1, p2⟩ := str_someQ (s := s) (by omega)
  by_cases h1 : m < s.size
  · have hno : numR s m = none := by unfold numR; rw [if_pos (.inr (.inl h1))]
    rw [numN_none hno, hno]
    have h1i : (m : Int) < (s.size : Int) := by omega
    clear hno h0
    go_enter Tryz.func103, Tryz.ntmps103
    go_wp2_with fail
    go_ret2
    exact ⟨rfl, Ext.refl _⟩
  have hl : s.data.toList.length = s.size := rfl
  have hpos : 0 < s.size := by omega
  have hhd : s.data.toList.head? = some s[0] := by
    rw [List.head?_eq_getElem?, List.getElem?_eq_getElem (by rw [hl]; exact hpos)]; rfl
  obtain ⟨b0, hb0⟩ : ∃ b, s[0] = b := ⟨_, rfl⟩
  rw [hb0] at hhd
  have hb256 := b0.toNat_lt
  have h1i : ¬ (m : Int) < (s.size : Int) := by omega
  by_cases h2 : b0 = 48 ∧ 1 < s.size
  · have hno : numR s m = none := by unfold numR; rw [if_pos (.inr (.inr ⟨by rw [hhd, h2.1], h2.2⟩))]
    rw [numN_none hno, hno]
    obtain ⟨rfl, h3⟩ := h2
    have h3i : (1 : Int) < (s.size : Int) := by omega
    clear hno h0 hhd hl
    go_enter Tryz.func103, Tryz.ntmps103
    go_wp2_with fail
    go_ret2
    exact ⟨rfl, Ext.refl _⟩
  have hnum : numR s m = Lib.decFrom 0 s.data.toList := by
    unfold numR
    rw [if_neg]
    rintro (h | h | ⟨h, h'⟩)
    · exact h0 h
    · exact h1 h
    · rw [hhd] at h
      injection h with h
      exact h2 ⟨h, h'⟩
  have HNU := Lib.hid hnum
  have HL := Lib.hid hl
  have hg : (((b0.toNat : Int) == 48) = false ∧ ¬ b0.toNat = 48) ∨ (b0 = 48 ∧ s.size = 1) := by
    by_cases e : b0 = 48
    · exact .inr ⟨e, by have h9 : ¬ 1 < s.size := fun h => h2 ⟨e, h⟩; omega⟩
    · have e2 : ¬ b0.toNat = 48 := fun h => e (UInt8.toNat_inj.1 h)
      exact .inl ⟨by simp; omega, e2⟩
  have hs9 : s.size ≤ 9 := by omega
  have HR1 : Hid (∀ v, Lib.decFrom 0 s.data.toList = some v → numN s m = v ∧ (numR s m).isSome = true) := Lib.hid fun v h => by
    have h3 := hnum.trans h
    exact ⟨numN_some h3, by rw [h3]; rfl⟩
  have HR2 : Hid (Lib.decFrom 0 s.data.toList = none → numN s m = 0 ∧ (numR s m).isSome = false) := Lib.hid fun h => by
    have h3 := hnum.trans h
    exact ⟨numN_none h3, by rw [h3]; rfl⟩
  obtain ⟨nv, hnv⟩ : ∃ x, numN s m = x := ⟨_, rfl⟩
  obtain ⟨ns, hns⟩ : ∃ x, (numR s m).isSome = x := ⟨_, rfl⟩
  rw [hnv, hns] at HR1 HR2
  rw [hnv, hns]
  clear hnum hl hhd h2 h1 hnv hns h0
  rcases hg with ⟨hg1, hg2⟩ | ⟨rfl, hg2⟩
  all_goals
    go_enter Tryz.func103, Tryz.ntmps103
    go_wp2_with fail
    go_loopw [6, 7] (fun a x wr => ∃ j v : Nat, a = .int .i64 (v : Nat) ∧ x = .int .i64 (j : Nat) ∧ j ≤ s.size ∧ v < 1000000000 ∧ Ext w wr ∧ Hid (Lib.decFrom 0 (s.data.toList.take j) = some v)) (fun _ x _ => s.size - (intOf x).toNat)
    case atStart => exact ⟨0, 0, rfl, rfl, Nat.zero_le _, by omega, Ext.refl _, rfl⟩
    case round =>
      obtain ⟨j, v, rfl, rfl, hj, hv, hbw, hgo⟩ := hrel
      by_cases hc : j < s.size
      · have hgj : s.data.toList[j]? = some s[j] := by
          rw [List.getElem?_eq_getElem (by rw [HL.out]; exact hc)]; rfl
        have HA := Lib.hid (dec_stop hgo.out hgj)
        clear hb0
        obtain ⟨b, hb⟩ : ∃ b, s[j] = b := ⟨_, rfl⟩
        rw [hb] at HA
        have hbb := b.toNat_lt
        clear hgj
        by_cases q1 : 48 ≤ b.toNat ∧ b.toNat ≤ 57
        · have H1 := Lib.hid (HA.out.2 _ (dig_yes q1))
          have hlt := dec_lt9 (by omega) H1.out
          obtain ⟨q2, q3⟩ := q1
          have q4 : (48 : Int) ≤ (b.toNat : Int) := by omega
          have q5 : (b.toNat : Int) ≤ 57 := by omega
          have E1 : Hid ((v : Int) * 10 + (b.toNat : Int) - 48 = ((v * 10 + (b.toNat - 48) : Nat) : Int)) := by show _ = _; omega
          clear HA
          go_wp2_with fail
          go_roundw
          case rel => exact ⟨j + 1, _, by rw [E1.out], by go_num, by omega, hlt, hbw, H1.out⟩
          case measure => simp [intOf]; omega
        · obtain ⟨rfl, rfl⟩ := HR2.out (HA.out.1 (dig_no q1))
          have h3 : (¬ 48 ≤ b.toNat) ∨ (48 ≤ b.toNat ∧ ¬ b.toNat ≤ 57) := by omega
          clear HA q1 HR1 HR2
          rcases h3 with q2 | ⟨q2, q3⟩
          · have p4 : ¬ (48 : Int) ≤ (b.toNat : Int) := by omega
            go_wp2_with fail
            go_ret2
            exact ⟨rfl, hbw⟩
          · have p3 : ¬ (b.toNat : Int) ≤ 57 := by omega
            have p4 : (48 : Int) ≤ (b.toNat : Int) := by omega
            go_wp2_with fail
            go_ret2
            exact ⟨rfl, hbw⟩
      · obtain rfl : j = s.size := by omega
        have hE := hgo.out
        rw [← HL.out, List.take_length] at hE
        obtain ⟨rfl, rfl⟩ := HR1.out v hE
        clear hE
        go_wp2_with fail
        go_ret2
        exact ⟨rfl, hbw⟩

set_option maxRecDepth 100000 in
set_option maxHeartbeats 1000000 in
theorem RHeadText_any (h : Hd) (w : World) (hok : h.ok = true) :
    Calls Tryz.prog 104 #[h.val] w fun e w' => e = .returned (.string (headB h)) ∧ Ext w w' := by
  obtain ⟨k1, k2, k3, k4, k5, k6⟩ := Hd.ok_parts hok
  obtain ⟨k7, k8⟩ := vld_true k5
  obtain ⟨k9, k10⟩ := vld_true k6
  have HHB : Hid (headB h = four4 (digB h.size.toNat) (hexT h.root.toNat) (digB h.time.toNat) (hexT h.sign.toNat)) := rfl
  obtain ⟨a, b, c, d⟩ := h
  simp only at k1 k2 k3 k4 k5 k6 k7 k8 k9 k10
  obtain ⟨a, rfl⟩ := Int.eq_ofNat_of_zero_le k1
  obtain ⟨b, rfl⟩ := Int.eq_ofNat_of_zero_le k7
  obtain ⟨c, rfl⟩ := Int.eq_ofNat_of_zero_le k3
  obtain ⟨d, rfl⟩ := Int.eq_ofNat_of_zero_le k9
  simp only [Int.toNat_natCast] at HHB
  have HI1 := Lib.hid fun W => RDigits_any a a W (Nat.le_refl _) (by omega)
  have HI2 := Lib.hid fun W => RDigits_any c c W (Nat.le_refl _) (by omega)
  have HT1 := Lib.hid fun W => RText_any b W (by omega)
  have HT2 := Lib.hid fun W => RText_any d W (by omega)
  have s1 := hexT_size b
  have s2 := hexT_size d
  have s3 : (digB a).size ≤ 7 := digB_small 6 _ (by show _ < 10000000; omega)
  have s4 : (digB c).size ≤ 7 := digB_small 6 _ (by show _ < 10000000; omega)
  obtain ⟨t1, ht1⟩ : ∃ t, digB a = t := ⟨_, rfl⟩
  obtain ⟨t2, ht2⟩ : ∃ t, hexT b = t := ⟨_, rfl⟩
  obtain ⟨t3, ht3⟩ : ∃ t, digB c = t := ⟨_, rfl⟩
  obtain ⟨t4, ht4⟩ : ∃ t, hexT d = t := ⟨_, rfl⟩
  rw [ht1] at HI1 HHB s3
  rw [ht2] at HT1 HHB s1
  rw [ht3] at HI2 HHB s4
  rw [ht4] at HT2 HHB s2
  have HF : Hid (four4 t1 t2 t3 t4 = t1 ++ ⟨#[32]⟩ ++ t2 ++ ⟨#[32]⟩ ++ t3 ++ ⟨#[32]⟩ ++ t4) := rfl
  obtain ⟨hb, hhb⟩ : ∃ x, headB ⟨(a : Int), (b : Int), (c : Int), (d : Int)⟩ = x := ⟨_, rfl⟩
  rw [hhb] at HHB
  rw [hhb]
  have B0 := Bk.at_ w 40 #[.int .i64 a, .int .i64 b, .int .i64 c, .int .i64 d] w.heap.size rfl
  have e0 : Ext w (w.alloc (.cells #[.int .i64 a, .int .i64 b, .int .i64 c, .int .i64 d] 40)) := by (repeat (with_reducible first | exact Ext.refl _ | assumption | refine Ext.drew ?_ | refine Ext.drewN ?_ _ | refine Ext.alloc ?_ _ | refine Ext.trans ?_ (by with_reducible assumption)))
  clear ht1 ht2 ht3 ht4 hhb k1 k2 k3 k4 k5 k6 k7 k8 k9 k10 hok
  obtain ⟨g0, hg0⟩ : ∃ g, w.heap.size = g := ⟨_, rfl⟩
  rw [hg0] at B0
  have y0 := B0.cell 0
  go_enter Tryz.func104, Tryz.ntmps104
  go_upto_region 1 with (fail)
  try rw [hg0]
  generalize w.alloc (.cells #[.int .i64 a, .int .i64 b, .int .i64 c, .int .i64 d] 40) = W0 at *
  have HE0 := Lib.hid e0
  clear e0 hg0
  go_wp2_with fail
  refine (HI1.out _).mono ?_
  rintro _ w1 ⟨rfl, hb1⟩
  have y1 := (B0.ext hb1).cell 1
  go_wp2_with fail
  refine (HT1.out _).mono ?_
  rintro _ w2 ⟨rfl, hb2⟩
  have hb12 := hb1.trans hb2
  have y2 := (B0.ext hb12).cell 2
  go_wp2_with fail
  refine (HI2.out _).mono ?_
  rintro _ w3 ⟨rfl, hb3⟩
  have hb13 := hb12.trans hb3
  have y3 := (B0.ext hb13).cell 3
  go_wp2_with fail
  refine (HT2.out _).mono ?_
  rintro _ w4 ⟨rfl, hb4⟩
  go_wp2_with fail
  go_ret
  exact ⟨ret_str (by rw [HHB.out, HF.out]), HE0.out.trans (hb13.trans hb4)⟩
/-! ### ReadHead -/
def RHP (s : ByteArray) (e : Ending) : Prop := e = .returned (.tuple #[(headR s).1.val, .int .i64 (headR s).2])
theorem RHP.of {s : ByteArray} {z : Hd × Int} (h : headR s = z) {e : Ending} (he : e = .returned (.tuple #[z.1.val, .int .i64 z.2])) : RHP s e := by unfold RHP; rw [h]; exact he

end Go.Proofs.YtdefdcaeiojmeaaGreatDoor

/- witlaw2.sums: the sums of a text. -/
namespace Go.Proofs.YtdefdcaeiojmeaaGreatDoor
open Go.RowKit Go.WideShapes
set_option linter.unusedVariables false
attribute [local go_sem ↓] Go.wp_at_zero Go.wp_at_succ

theorem info_intW : (Tryz.prog.info? 3).map (fun i => (i.zero, i.size, i.bytes)) = some (some (.int .i64 0), 1, 8) := by kernel_rfl
theorem oneIW (z : Int) : ∀ u ∈ [Value.int .i64 z], u.oneCell' = true := by intro u hu; simp at hu; subst hu; rfl
theorem join_le8 : ∀ l : List (List UInt8), (∀ x ∈ l, x.length ≤ 8) → (Lib.join l [32]).length ≤ l.length * 9
  | [], _ => by simp [Lib.join, List.intercalate]
  | [a], h => by rw [Lib.join_one]; have := h a (by simp); simp; omega
  | a :: b :: l, h => by
    have e : Lib.join (a :: b :: l) [32] = a ++ ([32] ++ Lib.join (b :: l) [32]) := by simp [Lib.join, List.intercalate]
    have ih := join_le8 (b :: l) (fun x hx => h x (by simp [hx]))
    have ha := h a (by simp)
    rw [e, List.length_append, List.length_append, List.length_cons (a := a), Nat.add_mul]
    have : ([32] : List UInt8).length = 1 := rfl
    omega
theorem texts_size (l : List Int) : (textsV l).size ≤ 1 + l.length * 9 := by
  unfold textsV
  split
  · show 1 ≤ _; omega
  · have := join_le8 ((l.map fun n => hexT n.toNat).map (·.data.toList)) (fun x hx => by
      obtain ⟨s, hs, rfl⟩ := List.mem_map.1 hx
      obtain ⟨n, _, rfl⟩ := List.mem_map.1 hs
      have e : (hexT n.toNat).data.toList.length = (hexT n.toNat).size := rfl
      rw [e, hexT_size]; exact Nat.le_refl _)
    rw [List.length_map, List.length_map] at this
    show (Lib.join _ [32]).toArray.size ≤ _
    rw [List.size_toArray]
    omega
theorem parts_len_le (c : UInt8) : ∀ l : List UInt8, (partsL c l).length ≤ l.length + 1
  | [] => by simp [partsL]
  | b :: l => by
    have ih := parts_len_le c l
    by_cases h : b = c
    · subst h; rw [partsL_hit]; simp; omega
    · obtain ⟨p, r, hp⟩ : ∃ p r, partsL c l = p :: r := by
        cases hh : partsL c l with
        | nil => exact absurd hh (partsL_ne c l)
        | cons p r => exact ⟨p, r, rfl⟩
      rw [partsL_miss h hp]
      rw [hp] at ih
      simp at ih ⊢
      omega
set_option maxRecDepth 100000 in
set_option maxHeartbeats 2000000 in
theorem WSums_any (s : ByteArray) (w : World) (hs : s.size ≤ 100000) :
    Calls Tryz.prog 45 #[.string s] w fun e w' => (∃ v, e = .returned v ∧ OwnI w w' v (backV s)) ∧ Ext w w' := by
  obtain ⟨i0, hi0, hz0, hz1, hz2⟩ := info_parts info_intW
  by_cases hd : s = ⟨#[45]⟩
  · have HB : Hid (backV s = []) := if_pos hd
    subst hd
    go_enter Tryz.func45, Tryz.ntmps45
    go_wp2_with fail
    go_ret
    exact ⟨⟨_, rfl, by rw [HB.out]; exact OwnI.nil _ _⟩, Ext.refl _⟩
  have HB : Hid (backV s = (partsB 32 s).map readV) := if_neg hd
  have hb : (s.toList == ([45] : List UInt8)) = false := by
    have h2 : s.toList ≠ [45] := fun e => hd (by
      apply ba_ext
      have := ByteArray.toList_eq s
      rw [← this, e])
    exact beq_eq_false_iff_ne.2 h2
  have HC := Lib.hid (RCut_any s 32 w (by omega))
  have hpl : (partsB 32 s).length ≤ 100001 := by
    unfold partsB
    rw [List.length_map]
    have := parts_len_le 32 s.data.toList
    have e : s.data.toList.length = s.size := rfl
    omega
  obtain ⟨ps, hps⟩ : ∃ x, partsB 32 s = x := ⟨_, rfl⟩
  rw [hps] at HB HC hpl
  rw [HB.out]
  clear hd hps HB
  go_enter Tryz.func45, Tryz.ntmps45
  go_wp2_with fail
  refine HC.out.mono ?_
  rintro _ w1 ⟨⟨v1, rfl, own1⟩, hb1⟩
  obtain ⟨A1, c1, rfl, hc1, R1, -⟩ := own_rd own1
  obtain ⟨l, hl⟩ : ∃ l, ps.length = l := ⟨_, rfl⟩
  rw [hl] at R1 hpl
  rw [hl]
  have HL := Lib.hid hl
  have HR1 := Lib.hid R1
  have HE1 := Lib.hid hb1
  have hlc := R1.2.1
  have hcs1 : c1 ≤ 9223372036854775807 := by unfold maxLen at hc1; omega
  clear own1 R1 hb1 hl HC
  go_wp2_with fail
  go_loopw [3, 5] (fun v x wr => ∃ j : Nat, x = .int .i64 j ∧ j ≤ l ∧ Hid (Ext w1 wr) ∧ ∃ zs : List Int, Hid (OwnI w1 wr v zs) ∧ Hid (zs = (ps.take j).map readV)) (fun _ x _ => l - (intOf x).toNat)
  case atStart => exact ⟨0, rfl, Nat.zero_le _, Ext.refl _, [], OwnI.nil _ _, rfl⟩
  case round =>
    obtain ⟨j, rfl, hj, HE1r, zs, HO, HZS⟩ := hrel
    have hzl : zs.length = j := by rw [HZS.out, List.length_map, List.length_take, HL.out]; omega
    by_cases hc : j < l
    case neg =>
      obtain rfl : j = l := by omega
      have hz : zs = ps.map readV := by rw [HZS.out, List.take_of_length_le (by rw [HL.out]; exact Nat.le_refl _)]
      subst hz
      go_wp2_with fail
      go_ret
      exact ⟨⟨_, rfl, HO.out.lower HE1.out.size⟩, HE1.out.trans HE1r.out⟩
    have hcI : (j : Int) < (l : Int) := by omega
    have hgj := List.getElem?_eq_getElem (l := ps) (i := j) (by rw [HL.out]; exact hc)
    obtain ⟨ad, hA, hbl, c0⟩ := (HR1.out.ext HE1r.out).getS hgj
    generalize ps[j]'(by rw [HL.out]; exact hc) = x at *
    subst hA
    have HGJ := Lib.hid hgj
    have HRX := Lib.hid fun W => RRead_any x W
    obtain ⟨z, hz⟩ : ∃ z, readV x = z := ⟨_, rfl⟩
    rw [hz] at HRX
    have HZ := Lib.hid hz
    have hse := HE1r.out.size
    clear hgj hz
    go_wp2_with fail
    refine (HRX.out _).mono ?_
    rintro _ w2 ⟨rfl, hb2⟩
    have hs2 := hb2.size
    have HO2 := Lib.hid (own_ext HO.out hb2)
    go_wp2_with (at_builtin; refine wpl_app (by rfl) _ _ _ (by rfl) w1.heap.size 3 i0 _ 1 8 Tryz.underlying24 hi0 hz0 hz1 hz2 rfl (by omega) u3 _ _ (by rfl) (HO2.out.alloc _) w2.heap.size 1 [.int .i64 z] rfl (by rfl) (news_new w2 _ _ _ rfl) (oneIW _) (by omega) (by omega) (by simp; omega) ?_; intro g cap w3 own3 hext3)
    go_roundw
    case rel => exact ⟨j + 1, by go_num, by omega, Lib.hid (hext3 _ (Nat.le_refl _) ((HE1r.out.trans hb2).alloc _)), zs ++ [z], Lib.hid (OwnI.mk (n := j + 1) (cs := zs.map (Value.int .i64) ++ [.int .i64 z]) (by have h2 := own3; rw [hzl] at h2; exact h2) (by rw [List.length_append, hzl]; rfl) (by simp)), Lib.hid (by
      have e2 : ps.take (j + 1) = ps.take j ++ [x] := by
        obtain ⟨h1, h2⟩ := List.getElem?_eq_some_iff.1 HGJ.out
        rw [List.take_succ_eq_append_getElem h1, h2]
      show _ = _
      rw [e2, List.map_append, ← HZS.out, List.map_singleton, HZ.out])⟩
    case measure => simp [intOf]; omega
end Go.Proofs.YtdefdcaeiojmeaaGreatDoor
