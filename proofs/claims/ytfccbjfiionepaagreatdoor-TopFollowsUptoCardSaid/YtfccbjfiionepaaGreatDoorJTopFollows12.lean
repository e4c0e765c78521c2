/- head.sign: four texts joined. -/
import Derived.Test.YtfccbjfiionepaaGreatDoorJTopFollows9
import Derived.Test.YtfccbjfiionepaaGreatDoorJTopFollows2
import Derived.Test.YtfccbjfiionepaaGreatDoorJTopFollows11
import Derived.Lib.QuietBelow
import Derived.Test.YtfccbjfiionepaaGreatDoorJTopFollows0
import Derived.Test.YtfccbjfiionepaaGreatDoorJTopFollows7
import Derived.Deep.DeepCutAuto
namespace Go.Proofs.YtfccbjfiionepaaGreatDoor
open Go.RowKit Go.WideShapes
set_option linter.unusedVariables false
attribute [local go_sem ↓] Go.wp_at_zero Go.wp_at_succ

theorem ext_grow (w : World) (k : Nat) (os : Array Obj) : Ext w (Sort.grow (w.drewN k) os) := below_regrown w (w.drawn + k) os
theorem Itoa_any (n : Nat) (w : World) (hn : n < 1000000000000) (hp : PowG w) :
    Calls Tryz.prog 62 #[.int .i64 n] w fun e w' => e = .returned (.string (digB n)) ∧ Ext w w' :=
  (Tryz.strconv_Itoa (n : Int) (by omega) (by omega) w hp).mono fun e w' ⟨he, k, os, hw⟩ => ⟨by rw [he, digB_itoa], by rw [hw]; exact ext_grow w k os⟩
theorem Join4 (g c : Nat) (a b d e : ByteArray) (w : World) (h0 : w.cell? ⟨g, 0, none⟩ = some (.string a)) (h1 : w.cell? ⟨g, 1, none⟩ = some (.string b)) (h2 : w.cell? ⟨g, 2, none⟩ = some (.string d)) (h3 : w.cell? ⟨g, 3, none⟩ = some (.string e)) (hg : g < w.heap.size) (hc : 4 ≤ c) (hs : a.size + b.size + d.size + e.size ≤ 1000) :
    Calls Tryz.prog 94 #[.slice (some ⟨g, 0, none⟩) 4 c, .string ⟨#[32]⟩] w fun x w' => x = .returned (.string (four4 a b d e)) ∧ Ext w w' := by
  have hj := four4_join a b d e
  refine (Tryz.strings_Join g 0 c [a, b, d, e] ⟨#[32]⟩ w ?_ hg (by simp) hc ?_).mono ?_
  · intro j x hx
    match j, hx with
    | 0, hx => obtain rfl : a = x := by simpa using hx
               simpa using h0
    | 1, hx => obtain rfl : b = x := by simpa using hx
               simpa using h1
    | 2, hx => obtain rfl : d = x := by simpa using hx
               simpa using h2
    | 3, hx => obtain rfl : e = x := by simpa using hx
               simpa using h3
    | k + 4, hx => simp at hx
  · have h4 := four4_size a b d e
    have h5 : (Lib.join [a.data.toList, b.data.toList, d.data.toList, e.data.toList] sp.data.toList).length = (four4 a b d e).size := by
      rw [← hj]; show _ = (Lib.join _ _).toArray.size; simp
    show (Lib.join [a.data.toList, b.data.toList, d.data.toList, e.data.toList] sp.data.toList).length ≤ _
    rw [h5, h4]; omega
  · rintro x w' ⟨hx, hb⟩
    exact ⟨hx.trans (by rw [← hj]; rfl), hb⟩

set_option maxRecDepth 100000 in
set_option maxHeartbeats 2000000 in
theorem sign_any (h : Hd) (key : Int) (w : World) (k : 0 ≤ h.size ∧ h.size ≤ 200 ∧ 0 ≤ h.time ∧ h.time ≤ 1000000) (hv : vld h.root = true) (hk : keyI key = true) (hD : DebG w) (hP : PowG w) :
    Calls Tryz.prog 52 #[h.val, .int .i64 key] w fun e w' => e = .returned (.int .i64 (signI h key)) ∧ Ext w w' := by
  obtain ⟨s1, s2, s3⟩ := signB_sizes k hk
  have s4 := hexT_size h.root.toNat
  have HSG : Hid (signI h key = sumL (four4 (digB h.size.toNat) (hexT h.root.toNat) (digB h.time.toNat) (digB key.toNat)).data.toList) := rfl
  obtain ⟨k1, k2, k3, k4⟩ := k
  obtain ⟨k5, k6⟩ := keyI_true hk
  obtain ⟨k7, k8⟩ := vld_true hv
  obtain ⟨a, b, c, d⟩ := h
  simp only at k1 k2 k3 k4 k7 k8 s1 s2 s4 hv
  obtain ⟨a, rfl⟩ := Int.eq_ofNat_of_zero_le k1
  obtain ⟨c, rfl⟩ := Int.eq_ofNat_of_zero_le k3
  obtain ⟨ky, rfl⟩ := Int.eq_ofNat_of_zero_le (show 0 ≤ key by omega)
  simp only [Int.toNat_natCast] at s1 s2 s3 HSG
  have HI1 := Lib.hid fun W (e : Ext w W) => Itoa_any a W (by omega) (hP.ext e)
  have HI2 := Lib.hid fun W (e : Ext w W) => Itoa_any c W (by omega) (hP.ext e)
  have HI3 := Lib.hid fun W (e : Ext w W) => Itoa_any ky W (by omega) (hP.ext e)
  have HT := Lib.hid fun W (e : Ext w W) => MText_sum hv W (hD.ext e)
  obtain ⟨t1, ht1⟩ : ∃ t, digB a = t := ⟨_, rfl⟩
  obtain ⟨t2, ht2⟩ : ∃ t, hexT b.toNat = t := ⟨_, rfl⟩
  obtain ⟨t3, ht3⟩ : ∃ t, digB c = t := ⟨_, rfl⟩
  obtain ⟨t4, ht4⟩ : ∃ t, digB ky = t := ⟨_, rfl⟩
  rw [ht1] at HI1 HSG s1
  rw [ht2] at HT HSG s4
  rw [ht3] at HI2 HSG s2
  rw [ht4] at HI3 HSG s3
  have hz : (four4 t1 t2 t3 t4).size ≤ maxLen := by rw [four4_size]; unfold maxLen; omega
  have HSM := Lib.hid fun W => Sum_any (four4 t1 t2 t3 t4) W hz
  rw [← HSG.out] at HSM
  have HJ := Lib.hid fun (g : Nat) (W : World) h0 h1 h2 h3 hg => Join4 g 4 t1 t2 t3 t4 W h0 h1 h2 h3 hg (by omega) (by omega)
  obtain ⟨sg, hsg⟩ : ∃ s, signI ⟨(a : Int), b, (c : Int), d⟩ (ky : Int) = s := ⟨_, rfl⟩
  rw [hsg] at HSM
  rw [hsg]
  have B0 := Bk.at_ w 40 #[.int .i64 a, .int .i64 b, .int .i64 c, .int .i64 d] w.heap.size rfl
  have e0 : Ext w (w.alloc (.cells #[.int .i64 a, .int .i64 b, .int .i64 c, .int .i64 d] 40)) := by (repeat (with_reducible first | exact Ext.refl _ | assumption | refine Ext.drew ?_ | refine Ext.drewN ?_ _ | refine Ext.alloc ?_ _ | refine Ext.trans ?_ (by with_reducible assumption)))
  clear s1 s2 s3 s4 hz ht1 ht2 ht3 ht4 hsg k1 k2 k3 k4 k5 k6 k7 k8 hv hk hD hP HSG
  go_enter Tryz.func52, Tryz.ntmps52
  go_upto_region 1 with (fail)
  obtain ⟨g0, hg0⟩ : ∃ g, w.heap.size = g := ⟨_, rfl⟩
  have HLT : Hid (g0 < (w.alloc (.cells #[.int .i64 a, .int .i64 b, .int .i64 c, .int .i64 d] 40)).heap.size) := by rw [← hg0]; simp [Hid]
  rw [hg0] at B0 ⊢
  generalize w.alloc (.cells #[.int .i64 a, .int .i64 b, .int .i64 c, .int .i64 d] 40) = W0 at *
  have x0 : ∀ x : WE W0, x.W.cell? ⟨g0, 0, none⟩ = some (.int .i64 a) := fun x => (B0.ext x.h).cell 0
  have x1 : ∀ x : WE W0, x.W.cell? ⟨g0, 1, none⟩ = some (.int .i64 b) := fun x => (B0.ext x.h).cell 1
  have x2 : ∀ x : WE W0, x.W.cell? ⟨g0, 2, none⟩ = some (.int .i64 c) := fun x => (B0.ext x.h).cell 2
  have HE0 := Lib.hid e0
  clear e0 hg0
  (refine wp_region_ext_tail (w0 := W0) 11 (by kernel_rfl) (by kernel_rfl) (by (repeat (with_reducible first | exact Ext.refl _ | assumption | refine Ext.drew ?_ | refine Ext.drewN ?_ _ | refine Ext.alloc ?_ _ | refine Ext.trans ?_ (by with_reducible assumption)))) ?_; simp only [List.take_succ_cons, List.take_zero, List.drop_succ_cons, List.drop_zero]; (repeat (go_big_quiet_step ((first
    | (go_at_call 62; first | exact quietE (HI1.out _ (HE0.out.trans (WE.h _))) | exact quietE (HI2.out _ (HE0.out.trans (WE.h _))) | exact quietE (HI3.out _ (HE0.out.trans (WE.h _))))
    | (go_at_call 61; exact quietE (HT.out _ (HE0.out.trans (WE.h _)))))))); refine wpQuiet_nil ?_)
  rintro _ ⟨xq, rfl⟩
  obtain ⟨w6, hw6⟩ : ∃ w, xq.W = w := ⟨_, rfl⟩
  have hb6 : Ext W0 w6 := by rw [← hw6]; exact xq.h
  rw [hw6]
  clear hw6 x0 x1 x2
  have B7 := Bk.at_ w6 9 #[.string t1, .string t2, .string t3, .string t4] w6.heap.size rfl
  have e7 : Ext W0 (w6.alloc (.cells #[.string t1, .string t2, .string t3, .string t4] 9)) := hb6.alloc _
  have HJ7 := Lib.hid (HJ.out w6.heap.size _ (B7.cell 0) (B7.cell 1) (B7.cell 2) (B7.cell 3) (by simp))
  go_wp2_with fail
  refine HJ7.out.mono ?_
  rintro _ w8 ⟨rfl, hb8⟩
  go_wp2_with fail
  refine (HSM.out _).mono ?_
  rintro _ w9 ⟨rfl, hb9⟩
  go_wp2_with fail
  go_ret
  exact ⟨rfl, HE0.out.trans ((e7.trans hb8).trans hb9)⟩
end Go.Proofs.YtfccbjfiionepaaGreatDoor

/- head.Check, Key, Verify; the references' Key, Head, Signed, Verify. -/
namespace Go.Proofs.YtfccbjfiionepaaGreatDoor
open Go.RowKit Go.WideShapes
set_option linter.unusedVariables false
attribute [local go_sem ↓] Go.wp_at_zero Go.wp_at_succ

set_option maxRecDepth 100000 in
set_option maxHeartbeats 1000000 in
theorem headCheck_ok (a b c d : Int) (w : World) (h0 : 0 ≤ a) (h1 : a ≤ 200) (h2 : 0 ≤ c) (h3 : c ≤ 1000000) (h4 : vld b = true) (h5 : vld d = true) :
    Calls Tryz.prog 51 #[.agg #[.int .i64 a, .int .i64 b, .int .i64 c, .int .i64 d]] w fun e w' => e = .returned .nilIface ∧ Ext w w' := by
  go_enter Tryz.func51, Tryz.ntmps51
  go_wp2_with (go_at_call 39; refine (Valid_any _ _).mono ?_; rintro e w' ⟨rfl, rfl⟩)
  go_ret
  exact ⟨rfl, by (repeat (with_reducible first | exact Ext.refl _ | assumption | refine Ext.drew ?_ | refine Ext.drewN ?_ _ | refine Ext.alloc ?_ _ | refine Ext.trans ?_ (by with_reducible assumption)))⟩

set_option maxRecDepth 100000 in
set_option maxHeartbeats 1000000 in
theorem headCheck_bad (a b c d : Int) (w : World) (hb : ¬ (0 ≤ a ∧ a ≤ 200 ∧ 0 ≤ c ∧ c ≤ 1000000 ∧ vld b = true ∧ vld d = true)) :
    Calls Tryz.prog 51 #[.agg #[.int .i64 a, .int .i64 b, .int .i64 c, .int .i64 d]] w fun e w' => e = .returned (errV 1) ∧ Ext w w' := by
  have cases6 : a < 0 ∨ (0 ≤ a ∧ 200 < a) ∨ (0 ≤ a ∧ a ≤ 200 ∧ c < 0) ∨ (0 ≤ a ∧ a ≤ 200 ∧ 0 ≤ c ∧ 1000000 < c) ∨ (0 ≤ a ∧ a ≤ 200 ∧ 0 ≤ c ∧ c ≤ 1000000 ∧ vld b = false) ∨ (0 ≤ a ∧ a ≤ 200 ∧ 0 ≤ c ∧ c ≤ 1000000 ∧ vld b = true ∧ vld d = false) := by
    by_cases x1 : a < 0
    · exact .inl x1
    by_cases x2 : 200 < a
    · exact .inr (.inl ⟨by omega, x2⟩)
    by_cases x3 : c < 0
    · exact .inr (.inr (.inl ⟨by omega, by omega, x3⟩))
    by_cases x4 : 1000000 < c
    · exact .inr (.inr (.inr (.inl ⟨by omega, by omega, by omega, x4⟩)))
    cases x5 : vld b
    · exact .inr (.inr (.inr (.inr (.inl ⟨by omega, by omega, by omega, by omega, rfl⟩))))
    cases x6 : vld d
    · exact .inr (.inr (.inr (.inr (.inr ⟨by omega, by omega, by omega, by omega, rfl, rfl⟩))))
    exact absurd ⟨by omega, by omega, by omega, by omega, x5, x6⟩ hb
  clear hb
  rcases cases6 with x1 | ⟨x1, x2⟩ | ⟨x1, x2, x3⟩ | ⟨x1, x2, x3, x4⟩ | ⟨x1, x2, x3, x4, x5⟩ | ⟨x1, x2, x3, x4, x5, x6⟩
  all_goals
    go_enter Tryz.func51, Tryz.ntmps51
    go_wp2_with (go_at_call 39; refine (Valid_any _ _).mono ?_; rintro e w' ⟨rfl, rfl⟩)
    go_ret
    exact ⟨rfl, by (repeat (with_reducible first | exact Ext.refl _ | assumption | refine Ext.drew ?_ | refine Ext.drewN ?_ _ | refine Ext.alloc ?_ _ | refine Ext.trans ?_ (by with_reducible assumption)))⟩
theorem HCheck_any (h : Hd) (w : World) : Calls Tryz.prog 51 #[h.val] w fun e w' => e = .returned (errR (hdK h)) ∧ Ext w w' := by
  cases hk : h.ok with
  | true =>
    obtain ⟨h0, h1, h2, h3, h4, h5⟩ := Hd.ok_parts hk
    rw [show hdK h = 0 from if_pos hk, errR_0]
    exact headCheck_ok _ _ _ _ w h0 h1 h2 h3 h4 h5
  | false =>
    rw [show hdK h = 1 from if_neg (by rw [hk]; decide)]
    exact headCheck_bad _ _ _ _ w (Hd.not_ok hk)
theorem HKey_any (k : Int) (w : World) : Calls Tryz.prog 50 #[.int .i64 k] w fun e w' => e = .returned (.bool (keyI k)) ∧ w = w' := by
  have h3 : (keyI k = false ∧ ¬ 1 ≤ k) ∨ (keyI k = false ∧ 1 ≤ k ∧ ¬ k ≤ 1000000) ∨ (keyI k = true ∧ 1 ≤ k ∧ k ≤ 1000000) := by
    cases hk : keyI k with
    | true => have := keyI_true hk; exact .inr (.inr ⟨rfl, this.1, this.2⟩)
    | false =>
      have := keyI_false hk
      by_cases h1 : 1 ≤ k
      · exact .inr (.inl ⟨rfl, h1, fun h => this ⟨h1, h⟩⟩)
      · exact .inl ⟨rfl, h1⟩
  rcases h3 with ⟨h, h1⟩ | ⟨h, h1, h2⟩ | ⟨h, h1, h2⟩
  all_goals
    rw [h]
    clear h
    go_enter Tryz.func50, Tryz.ntmps50
    go_wp2_with fail
    go_ret
    exact ⟨rfl, rfl⟩
theorem RKeyB_any (k : Int) (w : World) : Calls Tryz.prog 80 #[.int .i64 k] w fun e w' => e = .returned (.bool (keyI k)) ∧ w = w' := by
  have h3 : (keyI k = false ∧ ¬ 1 ≤ k) ∨ (keyI k = false ∧ 1 ≤ k ∧ ¬ k ≤ 1000000) ∨ (keyI k = true ∧ 1 ≤ k ∧ k ≤ 1000000) := by
    cases hk : keyI k with
    | true => have := keyI_true hk; exact .inr (.inr ⟨rfl, this.1, this.2⟩)
    | false =>
      have := keyI_false hk
      by_cases h1 : 1 ≤ k
      · exact .inr (.inl ⟨rfl, h1, fun h => this ⟨h1, h⟩⟩)
      · exact .inl ⟨rfl, h1⟩
  rcases h3 with ⟨h, h1⟩ | ⟨h, h1, h2⟩ | ⟨h, h1, h2⟩
  all_goals
    rw [h]
    clear h
    go_enter Tryz.func80, Tryz.ntmps80
    go_wp2_with fail
    go_ret
    exact ⟨rfl, rfl⟩

set_option maxRecDepth 100000 in
set_option maxHeartbeats 1000000 in
theorem Verify_any (h : Hd) (key : Int) (w : World) (hD : DebG w) (hP : PowG w) :
    Calls Tryz.prog 16 #[h.val, .int .i64 key] w fun e w' => e = .returned (errR (verK h key)) ∧ Ext w w' := by
  obtain ⟨hE, hN, hG0⟩ := errR_rules
  have HK := Lib.hid fun W => HKey_any key W
  have HC := Lib.hid fun W => HCheck_any h W
  have HSG : Hid (keyI key = true → h.ok = true → ∀ W, Ext w W → Calls Tryz.prog 52 #[h.val, .int .i64 key] W fun e w' => e = .returned (.int .i64 (signI h key)) ∧ Ext W w') := Lib.hid fun hk ho W e => by
    obtain ⟨a1, a2, a3, a4, a5, a6⟩ := Hd.ok_parts ho
    exact sign_any h key W ⟨a1, a2, a3, a4⟩ a5 hk (hD.ext e) (hP.ext e)
  have HV1 : Hid (keyI key = false → verK h key = 1) := Lib.hid fun hk => by unfold verK; rw [if_neg (by rw [hk]; simp)]
  have HV2 : Hid (h.ok = false → verK h key = 1) := Lib.hid fun ho => by unfold verK; rw [if_neg (by rw [ho]; simp)]
  have HV3 : Hid (keyI key = true → h.ok = true → verK h key = if h.sign = signI h key then 0 else 9) := Lib.hid fun hk ho => by unfold verK; rw [if_pos (by rw [hk, ho]; rfl)]
  have HC1 : Hid (h.ok = true → hdK h = 0) := Lib.hid fun ho => if_pos ho
  have HC2 : Hid (h.ok = false → hdK h = 1) := Lib.hid fun ho => if_neg (by rw [ho]; decide)
  obtain ⟨v, hv⟩ : ∃ v, verK h key = v := ⟨_, rfl⟩
  rw [hv] at HV1 HV2 HV3
  rw [hv]
  obtain ⟨sg, hsg⟩ : ∃ v, signI h key = v := ⟨_, rfl⟩
  rw [hsg] at HV3 HSG
  obtain ⟨kb, hkb⟩ : ∃ v, keyI key = v := ⟨_, rfl⟩
  obtain ⟨ob, hob⟩ : ∃ v, h.ok = v := ⟨_, rfl⟩
  obtain ⟨hk, hhk⟩ : ∃ v, hdK h = v := ⟨_, rfl⟩
  rw [hkb] at HK HSG HV1 HV3
  rw [hob] at HSG HV2 HV3 HC1 HC2
  rw [hhk] at HC HC1 HC2
  obtain ⟨a, b, c, d⟩ := h
  simp only [Hd.val] at *
  have B0 := Bk.at_ w 40 #[.int .i64 a, .int .i64 b, .int .i64 c, .int .i64 d] w.heap.size rfl
  have e0 : Ext w (w.alloc (.cells #[.int .i64 a, .int .i64 b, .int .i64 c, .int .i64 d] 40)) := by (repeat (with_reducible first | exact Ext.refl _ | assumption | refine Ext.drew ?_ | refine Ext.drewN ?_ _ | refine Ext.alloc ?_ _ | refine Ext.trans ?_ (by with_reducible assumption)))
  clear hv hsg hkb hob hhk hD hP
  obtain ⟨g0, hg0⟩ : ∃ g, w.heap.size = g := ⟨_, rfl⟩
  rw [hg0] at B0
  have y0 := B0.cell 0
  have y1 := B0.cell 1
  have y2 := B0.cell 2
  have y3 := B0.cell 3
  go_enter Tryz.func16, Tryz.ntmps16
  go_upto_region 1 with (fail)
  try rw [hg0]
  generalize w.alloc (.cells #[.int .i64 a, .int .i64 b, .int .i64 c, .int .i64 d] 40) = W0 at *
  have HE0 := Lib.hid e0
  clear e0 hg0
  cases kb with
  | false =>
    obtain rfl := HV1.out rfl
    go_wp2_with fail
    refine (HK.out _).mono ?_
    rintro _ _ ⟨rfl, rfl⟩
    go_wp2_with fail
    go_ret
    exact ⟨rfl, HE0.out⟩
  | true =>
    cases ob with
    | false =>
      obtain rfl := HV2.out rfl
      obtain rfl := HC2.out rfl
      go_wp2_with fail
      refine (HK.out _).mono ?_
      rintro _ _ ⟨rfl, rfl⟩
      go_wp2_with fail
      refine (HC.out _).mono ?_
      rintro _ w2 ⟨rfl, hb2⟩
      go_wp2_with fail
      go_ret
      exact ⟨rfl, HE0.out.trans hb2⟩
    | true =>
      have hv3 := HV3.out rfl rfl
      obtain rfl := HC1.out rfl
      rw [errR_0] at HC
      have HS := Lib.hid (HSG.out rfl rfl)
      go_wp2_with fail
      refine (HK.out _).mono ?_
      rintro _ _ ⟨rfl, rfl⟩
      go_wp2_with fail
      refine (HC.out _).mono ?_
      rintro _ w2 ⟨rfl, hb2⟩
      have e2 := HE0.out.trans hb2
      have B2 := B0.ext hb2
      have x0 : ∀ x : WE w2, x.W.cell? ⟨g0, 0, none⟩ = some (.int .i64 a) := fun x => (B2.ext x.h).cell 0
      have x1 : ∀ x : WE w2, x.W.cell? ⟨g0, 1, none⟩ = some (.int .i64 b) := fun x => (B2.ext x.h).cell 1
      have x2 : ∀ x : WE w2, x.W.cell? ⟨g0, 2, none⟩ = some (.int .i64 c) := fun x => (B2.ext x.h).cell 2
      have x3 : ∀ x : WE w2, x.W.cell? ⟨g0, 3, none⟩ = some (.int .i64 d) := fun x => (B2.ext x.h).cell 3
      have HV := Lib.hid hv3
      clear hv3 y0 y1 y2 y3
      go_upto_region 3 with (fail)
      (refine wp_region_ext (w0 := w2) (by kernel_rfl) (by kernel_rfl) (by (repeat (with_reducible first | exact Ext.refl _ | assumption | refine Ext.drew ?_ | refine Ext.drewN ?_ _ | refine Ext.alloc ?_ _ | refine Ext.trans ?_ (by with_reducible assumption)))) ?_; (repeat (go_big_quiet_step ((go_at_call 52; exact quietE (HS.out _ (e2.trans (WE.h _))))))); refine wpQuiet_nil ?_)
      intro w3 hb3
      clear x0 x1 x2 x3
      by_cases hs : d = sg
      · obtain rfl : v = 0 := HV.out.trans (if_pos hs)
        subst hs
        go_wp2_with fail
        go_ret
        exact ⟨rfl, e2.trans hb3⟩
      · obtain rfl : v = 9 := HV.out.trans (if_neg hs)
        have hs2 : (d == sg) = false := by simp [hs]
        go_wp2_with fail
        go_ret
        exact ⟨rfl, e2.trans hb3⟩
end Go.Proofs.YtfccbjfiionepaaGreatDoor

/- Heads in a row in memory. -/
namespace Go.Proofs.YtfccbjfiionepaaGreatDoor
open Go.RowKit Go.WideShapes
set_option linter.unusedVariables false

theorem flatH_nth : ∀ (l : List Hd) (j : Nat) (x : Hd) (i : Nat), l[j]? = some x → i < 4 → (l.flatMap Hd.cells)[j * 4 + i]? = x.cells[i]?
  | [], j, x, i, h, _ => by simp at h
  | y :: l, 0, x, i, h, hi => by
    obtain rfl : y = x := by simpa using h
    rw [List.flatMap_cons, Nat.zero_mul, Nat.zero_add, List.getElem?_append_left (by simpa [Hd.cells] using hi)]
  | y :: l, j + 1, x, i, h, hi => by
    rw [List.flatMap_cons, List.getElem?_append_right (by simp [Hd.cells]; omega), show (j + 1) * 4 + i - y.cells.length = j * 4 + i by simp [Hd.cells]; omega]
    exact flatH_nth l j x i (by simpa using h) hi
theorem Rd.getH {w : World} {A : Option Addr} {n c : Nat} {es : List Hd} (h : Rd w 4 A n c (es.flatMap Hd.cells)) {j : Nat} {e : Hd} (he : es[j]? = some e) :
    ∃ ad, A = some ad ∧ ad.block < w.heap.size ∧ w.cell? (ad.add (j * 4)) = some (.int .i64 e.size) ∧ w.cell? ⟨(ad.add (j * 4)).block, (ad.add (j * 4)).off + 1, none⟩ = some (.int .i64 e.root) ∧ w.cell? ⟨(ad.add (j * 4)).block, (ad.add (j * 4)).off + 2, none⟩ = some (.int .i64 e.time) ∧ w.cell? ⟨(ad.add (j * 4)).block, (ad.add (j * 4)).off + 3, none⟩ = some (.int .i64 e.sign) := by
  have h0 := flatH_nth es j e 0 he (by omega)
  have h1 := flatH_nth es j e 1 he (by omega)
  have h2 := flatH_nth es j e 2 he (by omega)
  have h3 := flatH_nth es j e 3 he (by omega)
  obtain ⟨ad, e1, hb, hc0⟩ := h.at_ h0
  obtain ⟨a1, e2, _, hc1⟩ := h.at_ h1
  obtain ⟨a2, e3, _, hc2⟩ := h.at_ h2
  obtain ⟨a3, e4, _, hc3⟩ := h.at_ h3
  rw [e1] at e2 e3 e4
  obtain rfl : ad = a1 := by injection e2
  obtain rfl : ad = a2 := by injection e3
  obtain rfl : ad = a3 := by injection e4
  rw [← add_add'] at hc1 hc2 hc3
  exact ⟨ad, e1, hb, hc0, hc1, hc2, hc3⟩
theorem flatH_len (l : List Hd) : (l.flatMap Hd.cells).length = l.length * 4 := by
  induction l with
  | nil => rfl
  | cons x l ih => rw [List.flatMap_cons, List.length_append, ih, List.length_cons]; simp [Hd.cells]; omega
theorem Rd.lenH {w : World} {A : Option Addr} {n c : Nat} {es : List Hd} (h : Rd w 4 A n c (es.flatMap Hd.cells)) : es.length = n := by
  have := h.1
  rw [flatH_len] at this
  omega
end Go.Proofs.YtfccbjfiionepaaGreatDoor

/- Proofs that a tree has but grown: plain. -/
namespace Go.Proofs.YtfccbjfiionepaaGreatDoor
set_option linter.unusedVariables false

def gsteps (o n : Nat) (b : Bool) : Nat :=
  if o = n then (if b = true then 0 else 1)
  else if h : 2 ≤ n ∧ half n < n then (if o ≤ half n then gsteps o (half n) b + 1 else gsteps (o - half n) (n - half n) false + 1) else 0
termination_by n
decreasing_by
  · exact h.2
  · have := half_pos n; omega
theorem gsteps_whole (n : Nat) : gsteps n n true = 0 := by rw [gsteps, if_pos rfl, if_pos rfl]
theorem gsteps_part (n : Nat) : gsteps n n false = 1 := by rw [gsteps, if_pos rfl, if_neg (by decide)]
theorem gsteps_left {o n : Nat} (b : Bool) (h : o ≠ n) (h2 : 2 ≤ n) (hn : n ≤ 4096) (ho : o ≤ half n) : gsteps o n b = gsteps o (half n) b + 1 := by
  rw [gsteps, if_neg h, dif_pos ⟨h2, half_lt h2 hn⟩, if_pos ho]
theorem gsteps_right {o n : Nat} (b : Bool) (h : o ≠ n) (h2 : 2 ≤ n) (hn : n ≤ 4096) (ho : ¬ o ≤ half n) : gsteps o n b = gsteps (o - half n) (n - half n) false + 1 := by
  rw [gsteps, if_neg h, dif_pos ⟨h2, half_lt h2 hn⟩, if_neg ho]
theorem gsteps_le : ∀ (N o n : Nat) (b : Bool), n ≤ N → 1 ≤ n → n ≤ 4096 → gsteps o n b ≤ n
  | 0, o, n, b, h, h1, _ => by omega
  | N + 1, o, n, b, h, h1, hn => by
    by_cases ho : o = n
    · subst ho
      cases b
      · rw [gsteps_part]; exact h1
      · rw [gsteps_whole]; omega
    · by_cases h2 : 2 ≤ n
      · have h3 := half_lt h2 hn
        have h4 := half_pos n
        by_cases hk : o ≤ half n
        · rw [gsteps_left b ho h2 hn hk]
          have := gsteps_le N o (half n) b (by omega) (by omega) (by omega)
          omega
        · rw [gsteps_right b ho h2 hn hk]
          have := gsteps_le N (o - half n) (n - half n) false (by omega) (by omega) (by omega)
          omega
      · rw [gsteps, if_neg ho, dif_neg (by omega)]
        omega

def groots (r : Int) (o n : Nat) (p : List Int) (b : Bool) : Int × Int :=
  if o = n then (if b = true then (r, r) else (p.headD 0, p.headD 0))
  else if h : 2 ≤ n ∧ half n < n then
    (if o ≤ half n then ((groots r o (half n) p.dropLast b).1, nodeL (groots r o (half n) p.dropLast b).2 (p.getLastD 0))
     else (nodeL (p.getLastD 0) (groots r (o - half n) (n - half n) p.dropLast false).1, nodeL (p.getLastD 0) (groots r (o - half n) (n - half n) p.dropLast false).2))
  else (r, r)
termination_by n
decreasing_by
  · exact h.2
  · have := half_pos n; omega
theorem groots_whole (r : Int) (n : Nat) (p : List Int) : groots r n n p true = (r, r) := by rw [groots, if_pos rfl, if_pos rfl]
theorem groots_part (r : Int) (n : Nat) (p : List Int) : groots r n n p false = (p.headD 0, p.headD 0) := by rw [groots, if_pos rfl, if_neg (by decide)]
theorem groots_left {r : Int} {o n : Nat} {p : List Int} (b : Bool) (h : o ≠ n) (h2 : 2 ≤ n) (hn : n ≤ 4096) (ho : o ≤ half n) : groots r o n p b = ((groots r o (half n) p.dropLast b).1, nodeL (groots r o (half n) p.dropLast b).2 (p.getLastD 0)) := by
  rw [groots, if_neg h, dif_pos ⟨h2, half_lt h2 hn⟩, if_pos ho]
theorem groots_right {r : Int} {o n : Nat} {p : List Int} (b : Bool) (h : o ≠ n) (h2 : 2 ≤ n) (hn : n ≤ 4096) (ho : ¬ o ≤ half n) : groots r o n p b = (nodeL (p.getLastD 0) (groots r (o - half n) (n - half n) p.dropLast false).1, nodeL (p.getLastD 0) (groots r (o - half n) (n - half n) p.dropLast false).2) := by
  rw [groots, if_neg h, dif_pos ⟨h2, half_lt h2 hn⟩, if_neg ho]
theorem groots_vld : ∀ (N : Nat) (r : Int) (o n : Nat) (p : List Int) (b : Bool), n ≤ N → 1 ≤ o → o ≤ n → n ≤ 4096 → vld r = true → allV p = true → p.length = gsteps o n b → vld (groots r o n p b).1 = true ∧ vld (groots r o n p b).2 = true
  | 0, r, o, n, p, b, h, h1, h2, _, _, _, _ => by omega
  | N + 1, r, o, n, p, b, h, h1, hon, hn, hr, hp, hl => by
    by_cases ho : o = n
    · subst ho
      cases b
      · rw [gsteps_part] at hl
        rw [groots_part]
        obtain ⟨x, rfl⟩ := List.length_eq_one_iff.1 hl
        have := allV_get hp (j := 0) (z := x) rfl
        exact ⟨this, this⟩
      · rw [groots_whole]; exact ⟨hr, hr⟩
    · have h2 : 2 ≤ n := by omega
      have h3 := half_lt h2 hn
      have h4 := half_pos n
      by_cases hk : o ≤ half n
      · rw [gsteps_left b ho h2 hn hk] at hl
        rw [groots_left b ho h2 hn hk]
        have hd : allV p.dropLast = true := by rw [List.dropLast_eq_take]; exact allV_take hp _
        have := groots_vld N r o (half n) p.dropLast b (by omega) h1 hk (by omega) hr hd (by rw [List.length_dropLast]; omega)
        exact ⟨this.1, vld_node _ _⟩
      · rw [groots_right b ho h2 hn hk]
        exact ⟨vld_node _ _, vld_node _ _⟩

/-- the proof -/
def growL (xs : List Int) (o : Nat) (b : Bool) : List Int :=
  if o = xs.length then (if b = true then [] else [ofL xs])
  else if h : 2 ≤ xs.length ∧ half xs.length < xs.length then
    (if o ≤ half xs.length then growL (xs.take (half xs.length)) o b ++ [ofL (xs.drop (half xs.length))] else growL (xs.drop (half xs.length)) (o - half xs.length) false ++ [ofL (xs.take (half xs.length))])
  else []
termination_by xs.length
decreasing_by
  · rw [List.length_take]; omega
  · rw [List.length_drop]; have := half_pos xs.length; omega
theorem growL_whole {xs : List Int} {o : Nat} (h : o = xs.length) : growL xs o true = [] := by rw [growL, if_pos h, if_pos rfl]
theorem growL_part {xs : List Int} {o : Nat} (h : o = xs.length) : growL xs o false = [ofL xs] := by rw [growL, if_pos h, if_neg (by decide)]
theorem growL_left {xs : List Int} {o : Nat} (b : Bool) (h : o ≠ xs.length) (h2 : 2 ≤ xs.length) (hn : xs.length ≤ 4096) (ho : o ≤ half xs.length) : growL xs o b = growL (xs.take (half xs.length)) o b ++ [ofL (xs.drop (half xs.length))] := by
  rw [growL, if_neg h, dif_pos ⟨h2, half_lt h2 hn⟩, if_pos ho]
theorem growL_right {xs : List Int} {o : Nat} (b : Bool) (h : o ≠ xs.length) (h2 : 2 ≤ xs.length) (hn : xs.length ≤ 4096) (ho : ¬ o ≤ half xs.length) : growL xs o b = growL (xs.drop (half xs.length)) (o - half xs.length) false ++ [ofL (xs.take (half xs.length))] := by
  rw [growL, if_neg h, dif_pos ⟨h2, half_lt h2 hn⟩, if_neg ho]
theorem growL_len : ∀ (N : Nat) (xs : List Int) (o : Nat) (b : Bool), xs.length ≤ N → 1 ≤ o → o ≤ xs.length → xs.length ≤ 4096 → (growL xs o b).length = gsteps o xs.length b
  | 0, xs, o, b, h, h1, h2, _ => by omega
  | N + 1, xs, o, b, h, h1, hon, hn => by
    by_cases ho : o = xs.length
    · cases b
      · rw [growL_part ho, ho, gsteps_part]; rfl
      · rw [growL_whole ho, ho, gsteps_whole]; rfl
    · have h2 : 2 ≤ xs.length := by omega
      have h3 := half_lt h2 hn
      have h4 := half_pos xs.length
      by_cases hk : o ≤ half xs.length
      · rw [growL_left b ho h2 hn hk, gsteps_left b ho h2 hn hk, List.length_append, growL_len N _ o b (by rw [List.length_take]; omega) h1 (by rw [List.length_take]; omega) (by rw [List.length_take]; omega), List.length_take, Nat.min_eq_left (by omega)]
        rfl
      · rw [growL_right b ho h2 hn hk, gsteps_right b ho h2 hn hk, List.length_append, growL_len N _ _ false (by rw [List.length_drop]; omega) (by omega) (by rw [List.length_drop]; omega) (by rw [List.length_drop]; omega), List.length_drop]
        rfl
theorem growL_vld : ∀ (N : Nat) (xs : List Int) (o : Nat) (b : Bool), xs.length ≤ N → 1 ≤ o → o ≤ xs.length → xs.length ≤ 4096 → allV xs = true → allV (growL xs o b) = true
  | 0, xs, o, b, h, h1, h2, _, _ => by omega
  | N + 1, xs, o, b, h, h1, hon, hn, hv => by
    by_cases ho : o = xs.length
    · cases b
      · rw [growL_part ho]
        have := vld_ofL hv hn
        simp [allV, this]
      · rw [growL_whole ho]; rfl
    · have h2 : 2 ≤ xs.length := by omega
      have h3 := half_lt h2 hn
      have h4 := half_pos xs.length
      have v1 := vld_ofL (allV_take hv (half xs.length)) (by rw [List.length_take]; omega)
      have v2 := vld_ofL (allV_drop hv (half xs.length)) (by rw [List.length_drop]; omega)
      by_cases hk : o ≤ half xs.length
      · rw [growL_left b ho h2 hn hk, allV_append, growL_vld N _ o b (by rw [List.length_take]; omega) h1 (by rw [List.length_take]; omega) (by rw [List.length_take]; omega) (allV_take hv _)]
        simp [allV, v2]
      · rw [growL_right b ho h2 hn hk, allV_append, growL_vld N _ _ false (by rw [List.length_drop]; omega) (by omega) (by rw [List.length_drop]; omega) (by rw [List.length_drop]; omega) (allV_drop hv _)]
        simp [allV, v1]
/-- what has but grown is proved so -/
theorem groots_grow : ∀ (N : Nat) (r : Int) (xs : List Int) (o : Nat) (b : Bool), xs.length ≤ N → 1 ≤ o → o ≤ xs.length → xs.length ≤ 4096 → (b = true → r = ofL (xs.take o)) → groots r o xs.length (growL xs o b) b = (ofL (xs.take o), ofL xs)
  | 0, r, xs, o, b, h, h1, h2, _, _ => by omega
  | N + 1, r, xs, o, b, h, h1, hon, hn, hr => by
    by_cases ho : o = xs.length
    · have ht : xs.take o = xs := List.take_of_length_le (by omega)
      cases b
      · rw [growL_part ho, ht]
        conv => lhs; rw [ho]
        rw [groots_part]
        rfl
      · have hr' := hr rfl
        rw [ht] at hr'
        rw [growL_whole ho, ht]
        conv => lhs; rw [ho]
        rw [groots_whole, hr']
    · have h2 : 2 ≤ xs.length := by omega
      have h3 := half_lt h2 hn
      have h3' := half_le h2 hn
      have h4 := half_pos xs.length
      by_cases hk : o ≤ half xs.length
      · have ih := groots_grow N r (xs.take (half xs.length)) o b (by rw [List.length_take]; omega) h1 (by rw [List.length_take]; omega) (by rw [List.length_take]; omega) (fun e => by rw [List.take_take, Nat.min_eq_left hk]; exact hr e)
        rw [List.length_take, Nat.min_eq_left (by omega), List.take_take, Nat.min_eq_left hk] at ih
        rw [growL_left b ho h2 hn hk, groots_left b ho h2 hn hk, List.dropLast_concat, ih, ofL_node h2 hn]
        simp
      · have ih := groots_grow N r (xs.drop (half xs.length)) (o - half xs.length) false (by rw [List.length_drop]; omega) (by omega) (by rw [List.length_drop]; omega) (by rw [List.length_drop]; omega) (fun e => by cases e)
        rw [List.length_drop] at ih
        have hho : half (xs.take o).length = half xs.length := by
          rw [List.length_take, Nat.min_eq_left hon]
          obtain ⟨a, b1, c, d⟩ := half_bitLen xs.length h2 hn
          unfold half at hk h3 h3' ⊢
          generalize Lib.bitLen (xs.length - 1) - 1 = j at *
          exact half_eq (by omega) (by omega) (by omega) (by rw [Nat.pow_succ]; omega)
        have htk : ofL (xs.take o) = nodeL (ofL (xs.take (half xs.length))) (ofL ((xs.drop (half xs.length)).take (o - half xs.length))) := by
          rw [ofL_node (xs := xs.take o) (by rw [List.length_take]; omega) (by rw [List.length_take]; omega), hho, List.take_take, Nat.min_eq_left (by omega), List.drop_take]
        rw [growL_right b ho h2 hn hk, groots_right b ho h2 hn hk, List.dropLast_concat, ih, htk, ofL_node h2 hn]
        simp

/-- which fault a proof has -/
def gcheck (r1 o r n : Int) (p : List Int) : Int :=
  if ¬ (1 ≤ o ∧ o ≤ n ∧ n ≤ 200) then 1
  else if ¬ (vld r1 = true ∧ vld r = true ∧ allV p = true) then 1
  else if p.length ≠ gsteps o.toNat n.toNat true then 3
  else if groots r1 o.toNat n.toNat p true ≠ (r1, r) then 8
  else 0
end Go.Proofs.YtfccbjfiionepaaGreatDoor

namespace Go.Proofs.YtfccbjfiionepaaGreatDoor
open Go.RowKit Go.WideShapes
set_option linter.unusedVariables false
attribute [local go_sem ↓] Go.wp_at_zero Go.wp_at_succ

set_option maxRecDepth 100000 in
set_option maxHeartbeats 1000000 in
theorem gsteps_any (N : Nat) : ∀ (o n : Nat) (b : Bool) (w : World), n ≤ N → 1 ≤ o → o ≤ n → n ≤ 4096 →
    Calls Tryz.prog 127 #[.int .i64 o, .int .i64 n, .bool b] w fun e w' => e = .returned (.int .i64 (gsteps o n b : Nat)) ∧ w = w' := by
  induction N with
  | zero => intro o n b w h h1; omega
  | succ N ih =>
    intro o n b w hN h1 hon hn
    have IH := Lib.hid ih
    clear ih
    by_cases ho : o = n
    · subst ho
      cases b
      · have HS := Lib.hid (gsteps_part o)
        go_enter Tryz.func127, Tryz.ntmps127
        go_wp2_with fail
        go_ret
        exact ⟨ret_int (by rw [HS.out]; rfl), rfl⟩
      · have HS := Lib.hid (gsteps_whole o)
        go_enter Tryz.func127, Tryz.ntmps127
        go_wp2_with fail
        go_ret
        exact ⟨ret_int (by rw [HS.out]; rfl), rfl⟩
    · have h2 : 2 ≤ n := by omega
      have hk := half_lt h2 hn
      have hk0 := half_pos n
      have ho' : ((o : Int) == (n : Int)) = false := by simp; omega
      by_cases hok : o ≤ half n
      · have hS := gsteps_left b ho h2 hn hok
        have hb := gsteps_le (half n) o (half n) b (Nat.le_refl _) (by omega) (by omega)
        have hI := fun W => IH.out o (half n) b W (by omega) h1 hok (by omega)
        generalize gsteps o (half n) b = s at *
        have HS := Lib.hid hS
        have HI := Lib.hid hI
        have i1 : (o : Int) ≤ ((half n : Nat) : Int) := by omega
        clear hS hI ho IH
        go_enter Tryz.func127, Tryz.ntmps127
        go_wp2_with fail
        refine (Half_any _ _ (by omega) (by omega)).mono ?_
        rintro _ w' ⟨rfl, rfl⟩
        rw [Int.toNat_natCast]
        go_wp2_with fail
        refine (HI.out _).mono ?_
        rintro _ w' ⟨rfl, rfl⟩
        go_wp2_with fail
        go_ret
        exact ⟨ret_int (by rw [HS.out]; omega), rfl⟩
      · have hS := gsteps_right b ho h2 hn hok
        have hb := gsteps_le (n - half n) (o - half n) (n - half n) false (Nat.le_refl _) (by omega) (by omega)
        have hI := fun W => IH.out (o - half n) (n - half n) false W (by omega) (by omega) (by omega) (by omega)
        generalize gsteps (o - half n) (n - half n) false = s at *
        have HS := Lib.hid hS
        have HI := Lib.hid hI
        have i1 : ((half n : Nat) : Int) < (o : Int) := by omega
        have N1 : Hid ((o : Int) - ((half n : Nat) : Int) = ((o - half n : Nat) : Int)) := by show _ = _; omega
        have N2 : Hid ((n : Int) - ((half n : Nat) : Int) = ((n - half n : Nat) : Int)) := by show _ = _; omega
        clear hS hI ho IH hok
        go_enter Tryz.func127, Tryz.ntmps127
        go_wp2_with fail
        refine (Half_any _ _ (by omega) (by omega)).mono ?_
        rintro _ w' ⟨rfl, rfl⟩
        rw [Int.toNat_natCast]
        go_wp2_with fail
        rw [N1.out, N2.out]
        refine (HI.out _).mono ?_
        rintro _ w' ⟨rfl, rfl⟩
        go_wp2_with fail
        go_ret
        exact ⟨ret_int (by rw [HS.out]; omega), rfl⟩

set_option maxRecDepth 100000 in
set_option maxHeartbeats 2000000 in
theorem groots_any (N : Nat) : ∀ (r : Int) (o n : Nat) (A : Option Addr) (m c : Nat) (ps : List Int) (b : Bool) (w : World), n ≤ N → 1 ≤ o → o ≤ n → n ≤ 4096 → m = gsteps o n b → Rd w 1 A m c (ps.map (Value.int .i64)) → c ≤ maxLen → vld r = true → allV ps = true →
    Calls Tryz.prog 128 #[.int .i64 r, .int .i64 o, .int .i64 n, .slice A m c, .bool b] w fun e w' => e = .returned (.tuple #[.int .i64 (groots r o n ps b).1, .int .i64 (groots r o n ps b).2]) ∧ Ext w w' := by
  induction N with
  | zero => intro r o n A m c ps b w h h1; omega
  | succ N ih =>
    intro r o n A m c ps b w hN h1 hon hn hms hr hm hv hp
    have hx := hr.lenI
    have hl : m ≤ c := hr.2.1
    have IH := Lib.hid ih
    clear ih
    by_cases ho : o = n
    · subst ho
      cases b
      · rw [gsteps_part] at hms
        subst hms
        obtain ⟨x, rfl⟩ := List.length_eq_one_iff.1 hx
        have HS := Lib.hid (groots_part r o [x])
        obtain ⟨ad, rfl, hb, hcell⟩ := hr.getI (j := 0) (z := x) rfl
        rw [add_zero'] at hcell
        clear hx hr
        go_enter Tryz.func128, Tryz.ntmps128
        go_wp2_with fail
        go_quiet (fail)
        go_wp2_with fail
        go_ret2
        exact ⟨ret_two (by rw [HS.out]; rfl) (by rw [HS.out]; rfl), by (repeat (with_reducible first | exact Ext.refl _ | assumption | refine Ext.drew ?_ | refine Ext.drewN ?_ _ | refine Ext.alloc ?_ _ | refine Ext.trans ?_ (by with_reducible assumption)))⟩
      · rw [gsteps_whole] at hms
        have HS := Lib.hid (groots_whole r o ps)
        subst hms
        clear hx hr
        go_enter Tryz.func128, Tryz.ntmps128
        go_wp2_with fail
        go_ret2
        exact ⟨ret_two (by rw [HS.out]; rfl) (by rw [HS.out]; rfl), by (repeat (with_reducible first | exact Ext.refl _ | assumption | refine Ext.drew ?_ | refine Ext.drewN ?_ _ | refine Ext.alloc ?_ _ | refine Ext.trans ?_ (by with_reducible assumption)))⟩
    · have h2 : 2 ≤ n := by omega
      have hk := half_lt h2 hn
      have hk0 := half_pos n
      have ho' : ((o : Int) == (n : Int)) = false := by simp; omega
      by_cases hok : o ≤ half n
      · have hS := groots_left (r := r) (p := ps) b ho h2 hn hok
        obtain ⟨k, hmk⟩ : ∃ k, m = k + 1 := ⟨gsteps o (half n) b, by rw [hms, gsteps_left b ho h2 hn hok]⟩
        have hks : k = gsteps o (half n) b := by rw [gsteps_left b ho h2 hn hok] at hms; omega
        have hlast := last_of (hx.trans hmk)
        have hvl := (vld_true (allV_get hp hlast)).1
        rw [← init_of (hx.trans hmk)] at hS
        obtain ⟨ad, hA, hb, hcell⟩ := hr.getI hlast
        have R := hr.takeI (k := k) (by omega)
        have hvt := allV_take hp k
        have hgv := groots_vld (half n) r o (half n) (ps.take k) b (Nat.le_refl _) h1 hok (by omega) hv hvt (by rw [List.length_take, hx, ← hks]; omega)
        have vg := (vld_true hgv.2).1
        have hI := fun (W : World) (e : Ext w W) => IH.out r o (half n) A k c (ps.take k) b W (by omega) h1 hok (by omega) hks (R.ext e) hm hv hvt
        generalize groots r o (half n) (ps.take k) b = g at *
        obtain ⟨ga, gb⟩ := g
        generalize ps.getLastD 0 = z at *
        have HS := Lib.hid hS
        have HI := Lib.hid hI
        have HV : Hid (0 ≤ gb) := vg
        subst hA
        clear hx hms hlast hks hS hI IH ho hgv vg
        unfold maxLen at hm
        have q0 : (0 : Int) ≤ (k : Int) := by omega
        have q1 : (k : Int) ≤ (c : Int) := by omega
        have q2 : (k : Int) < (m : Int) := by omega
        have q9 : Hid ((m : Int) - 1 = (k : Int)) := by show _ = _; omega
        have q8 : (1 : Int) ≤ (m : Int) := by omega
        have q7 : (m : Int) ≤ (c : Int) := by omega
        have i1 : (o : Int) ≤ ((half n : Nat) : Int) := by omega
        clear hmk
        go_enter Tryz.func128, Tryz.ntmps128
        go_upto_region 2 with (fail)
        rw [q9.out]
        go_wp2_with fail
        refine (Half_any _ _ (by omega) (by omega)).mono ?_
        rintro e w' ⟨rfl, rfl⟩
        rw [Int.toNat_natCast]
        go_wp2_with fail
        refine (HI.out _ (Ext.refl _)).mono ?_
        rintro _ w1 ⟨rfl, hb1⟩
        have hcell1 := (Ext.cell (p := ad.add k) hb1 (by rw [blk_add]; exact hb)).trans hcell
        go_wp2_with fail
        refine (NodeOf_any _ _ _ HV.out hvl).mono ?_
        rintro _ w2 ⟨rfl, hb2⟩
        go_wp2_with fail
        go_ret2
        exact ⟨ret_two (by rw [HS.out]; rfl) (by rw [HS.out]; rfl), by (repeat (with_reducible first | exact Ext.refl _ | assumption | refine Ext.drew ?_ | refine Ext.drewN ?_ _ | refine Ext.alloc ?_ _ | refine Ext.trans ?_ (by with_reducible assumption)))⟩
      · have hS := groots_right (r := r) (p := ps) b ho h2 hn hok
        obtain ⟨k, hmk⟩ : ∃ k, m = k + 1 := ⟨gsteps (o - half n) (n - half n) false, by rw [hms, gsteps_right b ho h2 hn hok]⟩
        have hks : k = gsteps (o - half n) (n - half n) false := by rw [gsteps_right b ho h2 hn hok] at hms; omega
        have hlast := last_of (hx.trans hmk)
        have hvl := (vld_true (allV_get hp hlast)).1
        rw [← init_of (hx.trans hmk)] at hS
        obtain ⟨ad, hA, hb, hcell⟩ := hr.getI hlast
        have R := hr.takeI (k := k) (by omega)
        have hvt := allV_take hp k
        have hgv := groots_vld (n - half n) r (o - half n) (n - half n) (ps.take k) false (Nat.le_refl _) (by omega) (by omega) (by omega) hv hvt (by rw [List.length_take, hx, ← hks]; omega)
        have va := (vld_true hgv.1).1
        have vb := (vld_true hgv.2).1
        have hI := fun (W : World) (e : Ext w W) => IH.out r (o - half n) (n - half n) A k c (ps.take k) false W (by omega) (by omega) (by omega) (by omega) hks (R.ext e) hm hv hvt
        generalize groots r (o - half n) (n - half n) (ps.take k) false = g at *
        obtain ⟨ga, gb⟩ := g
        generalize ps.getLastD 0 = z at *
        have HS := Lib.hid hS
        have HI := Lib.hid hI
        have HVa : Hid (0 ≤ ga) := va
        have HVb : Hid (0 ≤ gb) := vb
        have HN1 : Hid (nodeL z ga = nodeL z ga) := rfl
        subst hA
        clear hx hms hlast hks hS hI IH ho hgv va vb
        unfold maxLen at hm
        have q0 : (0 : Int) ≤ (k : Int) := by omega
        have q1 : (k : Int) ≤ (c : Int) := by omega
        have q2 : (k : Int) < (m : Int) := by omega
        have q9 : Hid ((m : Int) - 1 = (k : Int)) := by show _ = _; omega
        have q8 : (1 : Int) ≤ (m : Int) := by omega
        have q7 : (m : Int) ≤ (c : Int) := by omega
        have i1 : ((half n : Nat) : Int) < (o : Int) := by omega
        have N1 : Hid ((o : Int) - ((half n : Nat) : Int) = ((o - half n : Nat) : Int)) := by show _ = _; omega
        have N2 : Hid ((n : Int) - ((half n : Nat) : Int) = ((n - half n : Nat) : Int)) := by show _ = _; omega
        clear hmk hok
        go_enter Tryz.func128, Tryz.ntmps128
        go_upto_region 2 with (fail)
        rw [q9.out]
        go_wp2_with fail
        refine (Half_any _ _ (by omega) (by omega)).mono ?_
        rintro e w' ⟨rfl, rfl⟩
        rw [Int.toNat_natCast]
        go_wp2_with fail
        rw [N1.out, N2.out]
        refine (HI.out _ (Ext.refl _)).mono ?_
        rintro _ w1 ⟨rfl, hb1⟩
        have hcell1 := (Ext.cell (p := ad.add k) hb1 (by rw [blk_add]; exact hb)).trans hcell
        have hbk := hb1.lt hb
        have HC1 := Lib.hid hcell1
        go_wp2_with fail
        clear hcell1
        go_region_held3 (fun W => W.cell? (ad.add k) = some (.int .i64 z)) (first | exact HC1.out | exact (Ext.cell (a := w1) (by (repeat (with_reducible first | exact Ext.refl _ | assumption | refine Ext.drew ?_ | refine Ext.drewN ?_ _ | refine Ext.alloc ?_ _ | refine Ext.trans ?_ (by with_reducible assumption)))) (by rw [blk_add]; exact hbk)).trans HC1.out) (first
          | (go_at_call 40; (with_reducible refine (NodeOf_any z ga _ hvl HVa.out).mono ?_); rintro _ w2 ⟨rfl, hb2⟩)
          | (go_at_call 40; (with_reducible refine (NodeOf_any z gb _ hvl HVb.out).mono ?_); rintro _ w3 ⟨rfl, hb3⟩)
          | fail)
        all_goals
          go_wp2_with fail
          go_ret2
          exact ⟨ret_two (by rw [HS.out]; rfl) (by rw [HS.out]; rfl), by (repeat (with_reducible first | exact Ext.refl _ | assumption | refine Ext.drew ?_ | refine Ext.drewN ?_ _ | refine Ext.alloc ?_ _ | refine Ext.trans ?_ (by with_reducible assumption)))⟩
end Go.Proofs.YtfccbjfiionepaaGreatDoor

/- Contracts for every input: the fault by its number. -/
namespace Go.Proofs.YtfccbjfiionepaaGreatDoor
open Go.RowKit Go.WideShapes
set_option linter.unusedVariables false

/-- what is wrong with leafs -/
def leafsK (xs : List Int) : Int := if 200 < xs.length then 4 else if allV xs = true then 0 else 1
theorem leafsK_ok {xs : List Int} (h : leafsOk xs) : leafsK xs = 0 := by unfold leafsK; rw [if_neg (by have := h.1; omega), if_pos h.2]
theorem leafsK_bad {xs : List Int} (h : ¬ leafsOk xs) : leafsK xs ≠ 0 := by
  unfold leafsK
  by_cases h2 : 200 < xs.length
  · rw [if_pos h2]; decide
  · rw [if_neg h2]
    cases hv : allV xs
    · rw [if_neg (by decide)]; decide
    · exact absurd ⟨by omega, hv⟩ h
theorem leafsK_zero {xs : List Int} (h : leafsK xs = 0) : leafsOk xs := by
  by_cases hk : leafsOk xs
  · exact hk
  · exact absurd h (leafsK_bad hk)
theorem leafsK_err {xs : List Int} (h : ¬ leafsOk xs) : leafsK xs = leafsErr xs := by
  unfold leafsK leafsErr
  by_cases h2 : 200 < xs.length
  · rw [if_pos h2, if_pos h2]
  · rw [if_neg h2, if_neg h2]
    cases hv : allV xs
    · rw [if_neg (by decide)]
    · exact absurd ⟨by omega, hv⟩ h
theorem TCheck_any (A : Option Addr) (n c : Nat) (xs : List Int) (w : World) (hr : Rd w 1 A n c (xs.map (Value.int .i64))) (hm : c ≤ maxLen) :
    Calls Tryz.prog 42 #[.slice A n c] w fun e w' => e = .returned (errR (leafsK xs)) ∧ w = w' := by
  have hx := hr.lenI
  by_cases hk : leafsOk xs
  · refine (TCheck_ok A n c xs w hr hm (by have := hk.1; omega) hk.2).mono fun e w' hh => ⟨hh.1.trans ?_, hh.2⟩
    rw [leafsK_ok hk]; rfl
  · refine (TCheck_bad A n c xs w hr hm hk).mono fun e w' hh => ⟨hh.1.trans ?_, hh.2⟩
    rw [← leafsK_err hk, errR_ne (leafsK_bad hk)]

/-- proof.Make: the fault, the proof -/
def pmK (xs : List Int) (i m : Int) : Int := if leafsK xs ≠ 0 then leafsK xs else if 0 ≤ i ∧ i < m ∧ m ≤ xs.length then 0 else 1
def pmV (xs : List Int) (i m : Int) : List Int := if pmK xs i m = 0 then wayL (xs.take m.toNat) i.toNat else []
theorem pmK_ok {xs : List Int} {i m : Int} (h : leafsOk xs) (h2 : 0 ≤ i ∧ i < m ∧ m ≤ xs.length) : pmK xs i m = 0 := by unfold pmK; rw [leafsK_ok h, if_neg (by decide), if_pos h2]
theorem pmK_range {xs : List Int} {i m : Int} (h : leafsOk xs) (h2 : ¬ (0 ≤ i ∧ i < m ∧ m ≤ xs.length)) : pmK xs i m = 1 := by unfold pmK; rw [leafsK_ok h, if_neg (by decide), if_neg h2]
theorem pmK_bad {xs : List Int} {i m : Int} (h : leafsK xs ≠ 0) : pmK xs i m = leafsK xs := by unfold pmK; rw [if_pos h]
theorem pmK_zero {xs : List Int} {i m : Int} (h : pmK xs i m = 0) : leafsOk xs ∧ 0 ≤ i ∧ i < m ∧ m ≤ xs.length := by
  by_cases hk : leafsOk xs
  · by_cases h2 : 0 ≤ i ∧ i < m ∧ m ≤ xs.length
    · exact ⟨hk, h2⟩
    · rw [pmK_range hk h2] at h; cases h
  · rw [pmK_bad (leafsK_bad hk)] at h; exact absurd h (leafsK_bad hk)
theorem PMake_any (A : Option Addr) (n c : Nat) (xs : List Int) (i m : Int) (w : World) (hr : Rd w 1 A n c (xs.map (Value.int .i64))) (hm : c ≤ maxLen) :
    Calls Tryz.prog 18 #[.slice A n c, .int .i64 i, .int .i64 m] w fun e w' => (∃ v, e = .returned (.tuple #[v, errR (pmK xs i m)]) ∧ OwnI w w' v (pmV xs i m)) ∧ Ext w w' := by
  have hx := hr.lenI
  by_cases hk : leafsOk xs
  · by_cases h : 0 ≤ i ∧ i < m ∧ m ≤ xs.length
    · refine (PMake_ok A n c xs i m w hr hm hk h.1 h.2.1 (by omega)).mono fun e w' hh => ?_
      obtain ⟨⟨v, h1, h2⟩, h3⟩ := hh
      refine ⟨⟨v, ?_, ?_⟩, h3⟩
      · rw [pmK_ok hk h]; exact h1
      · unfold pmV; rw [if_pos (pmK_ok hk h)]; exact h2
    · refine (PMake_range A n c xs i m w hr hm hk (by rw [← hx]; exact h)).mono fun e w' hh => ?_
      refine ⟨⟨.slice none 0 0, ?_, ?_⟩, hh.2⟩
      · rw [pmK_range hk h]; exact hh.1
      · unfold pmV; rw [if_neg (by rw [pmK_range hk h]; decide)]; exact own_nil _ _ _ _
  · refine (PMake_bad A n c xs i m w hr hm hk).mono fun e w' hh => ?_
    refine ⟨⟨.slice none 0 0, ?_, ?_⟩, hh.2⟩
    · rw [pmK_bad (leafsK_bad hk), errR_ne (leafsK_bad hk), leafsK_err hk]; exact hh.1
    · unfold pmV; rw [if_neg (by rw [pmK_bad (leafsK_bad hk)]; exact leafsK_bad hk)]; exact own_nil _ _ _ _

/-- proof.Steps -/
def stepsK (i m : Int) : Int := if 0 ≤ i ∧ i < m ∧ m ≤ 200 then 0 else 1
def stepsV (i m : Int) : Int := if 0 ≤ i ∧ i < m ∧ m ≤ 200 then (stepsN i.toNat m.toNat : Nat) else 0
theorem Steps_any (i m : Int) (w : World) : Calls Tryz.prog 84 #[.int .i64 i, .int .i64 m] w fun e w' => e = .returned (.tuple #[.int .i64 (stepsV i m), errR (stepsK i m)]) ∧ Ext w w' := by
  by_cases h : 0 ≤ i ∧ i < m ∧ m ≤ 200
  · refine (Steps_ok i m w h.1 h.2.1 h.2.2).mono fun e w' hh => ⟨hh.1.trans ?_, hh.2⟩
    unfold stepsV stepsK; rw [if_pos h, if_pos h]; rfl
  · refine (Steps_bad i m w h).mono fun e w' hh => ⟨hh.1.trans ?_, hh.2⟩
    unfold stepsV stepsK; rw [if_neg h, if_neg h]; rfl
end Go.Proofs.YtfccbjfiionepaaGreatDoor
