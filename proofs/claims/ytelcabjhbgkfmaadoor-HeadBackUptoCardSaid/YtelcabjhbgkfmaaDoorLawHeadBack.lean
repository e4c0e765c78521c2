/- HeadBack: the walk. -/
import Derived.Test.YtelcabjhbgkfmaaDoorHParse
import Derived.Test.YtelcabjhbgkfmaaDoorHdEq
import Derived.Deep.DeepCutAuto
namespace Go.Proofs.YtelcabjhbgkfmaaDoor.headBack
open Go.RowKit Go.WideShapes
set_option linter.unusedVariables false
attribute [local go_sem ↓] Go.wp_at_zero Go.wp_at_succ

def oneH : Hd := ⟨3, 255, 9, 0⟩
def oneS : ByteArray := ⟨#[51, 32, 48, 48, 48, 48, 48, 48, 102, 102, 32, 57, 32, 55]⟩
theorem one_sign : signI oneH 7 = sumL oneS.data.toList := by
  have h : signB oneH 7 = oneS := by
    show four4 (digB 3) (hexT 255) (digB 9) (digB 7) = oneS
    rw [digB_one (by omega), digB_one (by omega), digB_one (by omega)]
    decide +kernel
  unfold signI
  rw [h]
theorem one_ok : sgnK oneH 7 = 0 := if_pos (by decide)
theorem headB_size {h : Hd} (k : h.ok = true) : (headB h).size ≤ 1048576 := by
  obtain ⟨k1, k2, k3, k4, _⟩ := Hd.ok_parts k
  have s1 : (digB h.size.toNat).size ≤ 7 := digB_small 6 _ (by show _ < 10000000; omega)
  have s3 : (digB h.time.toNat).size ≤ 7 := digB_small 6 _ (by show _ < 10000000; omega)
  unfold headB
  rw [four4_size, hexT_size, hexT_size]
  omega
theorem again {h : Hd} {key : Int} (k : sgnK h key = 0) : sgnK (blank (sgnH h key)) key = 0 ∧ sgnH (blank (sgnH h key)) key = sgnH h key := by
  obtain ⟨h1, h2, h3, h4⟩ := sgn_ver k
  have e : blank (sgnH h key) = blank h := by rw [h4]; rfl
  have hb : blank (blank h) = blank h := rfl
  rw [e]
  constructor
  · unfold sgnK; rw [hb, if_pos (by rw [h2, h3]; rfl)]
  · unfold sgnH; rw [hb, if_pos (by rw [h2, h3]; rfl), if_pos (by rw [h2, h3]; rfl)]
    rfl

set_option maxRecDepth 100000 in
set_option maxHeartbeats 8000000 in
theorem walk (h : Hd) (key : Int) (s : ByteArray) (w : World) (gh : h.good) (gk : igood key) (hs : s.size ≤ 1048576) (hG : StrG w) (hP : PowG w) (hM : MaxG w) :
    Calls Tryd.prog 5 #[h.val, .int .i64 key, .string s] w fun e w' => e = .returned (.bool true) ∧ Ext w w' := by
  obtain ⟨hE, hN, hG0⟩ := errR_rules
  have hNS := hd_neq_self
  have hGd := hd_guard
  obtain ⟨v1, v2, v3, v4⟩ := sgn_ver one_ok
  have ho := one_sign
  have HS1 : Hid (∀ W, Ext w W → Calls Tryd.prog 24 #[.agg #[.int .i64 3, .int .i64 255, .int .i64 9, .int .i64 0], .int .i64 7] W fun e w' => e = .returned (.tuple #[.agg #[.int .i64 3, .int .i64 255, .int .i64 9, .int .i64 (signI oneH 7)], .nilIface]) ∧ Ext W w') := Lib.hid fun W e => by
    have := Sign_any oneH 7 W (hG.deb.ext e) (hP.ext e)
    rw [one_ok, v4] at this; exact this
  have HV1 : Hid (∀ W, Ext w W → Calls Tryd.prog 25 #[.agg #[.int .i64 3, .int .i64 255, .int .i64 9, .int .i64 (signI oneH 7)], .int .i64 7] W fun e w' => e = .returned .nilIface ∧ Ext W w') := Lib.hid fun W e => by
    have := Verify_any (sgnH oneH 7) 7 W (hG.deb.ext e) (hP.ext e)
    rw [v1, v4] at this; exact this
  have HSM := Lib.hid fun W => Sum_any oneS W (by decide)
  rw [← ho] at HSM
  obtain ⟨sg, hsg⟩ : ∃ x, signI oneH 7 = x := ⟨_, rfl⟩
  rw [hsg] at HS1 HV1 HSM
  have HSG := Lib.hid fun W (e : Ext w W) => Sign_any h key W (hG.deb.ext e) (hP.ext e)
  have HPX : Hid (sgnK h key = 0 → ∀ W, Ext w W → Calls Tryd.prog 26 #[(sgnH h key).val] W fun e w' => e = .returned (.tuple #[.string (headB (sgnH h key)), .nilIface]) ∧ Ext W w') := Lib.hid fun k W e => by
    have hk := (verK_zero (sgn_ver k).1).2.1
    have := HPrint_any (sgnH h key) W (hG.deb.ext e) (hP.ext e)
    rw [show hprT (sgnH h key) = headB (sgnH h key) from if_pos hk, show hdK (sgnH h key) = 0 from if_pos hk] at this
    exact this
  have HPA : Hid (sgnK h key = 0 → ∀ W, Ext w W → Calls Tryd.prog 27 #[.string (headB (sgnH h key))] W fun e w' => e = .returned (.tuple #[(sgnH h key).val, .nilIface]) ∧ Ext W w') := Lib.hid fun k W e => by
    have hk := (verK_zero (sgn_ver k).1).2.1
    refine (HParse_any (headB (sgnH h key)) W (headB_size hk) (hG.ext e) (hP.ext e) (hM.ext e)).mono fun e' w' hh => ⟨?_, hh.2⟩
    have h2 := hh.1
    unfold HPR at h2
    rw [headR_back hk] at h2
    exact h2
  have HVX : Hid (sgnK h key = 0 → ∀ W, Ext w W → Calls Tryd.prog 25 #[(sgnH h key).val, .int .i64 key] W fun e w' => e = .returned .nilIface ∧ Ext W w') := Lib.hid fun k W e => by
    have := Verify_any (sgnH h key) key W (hG.deb.ext e) (hP.ext e)
    rw [(sgn_ver k).1] at this; exact this
  have HSX : Hid (sgnK h key = 0 → ∀ W, Ext w W → Calls Tryd.prog 24 #[(blank (sgnH h key)).val, .int .i64 key] W fun e w' => e = .returned (.tuple #[(sgnH h key).val, .nilIface]) ∧ Ext W w') := Lib.hid fun k W e => by
    have := Sign_any (blank (sgnH h key)) key W (hG.deb.ext e) (hP.ext e)
    rw [(again k).1, (again k).2] at this; exact this
  have HPS := Lib.hid fun W (e : Ext w W) => HParse_any s W hs (hG.ext e) (hP.ext e) (hM.ext e)
  have HPY : Hid ((headR s).2 = 0 → ∀ W, Ext w W → Calls Tryd.prog 26 #[(headR s).1.val] W fun e w' => e = .returned (.tuple #[.string s, .nilIface]) ∧ Ext W w') := Lib.hid fun k W e => by
    obtain ⟨h1, h2⟩ := headR_print k
    have := HPrint_any (headR s).1 W (hG.deb.ext e) (hP.ext e)
    rw [show hprT (headR s).1 = headB (headR s).1 from if_pos h2, show hdK (headR s).1 = 0 from if_pos h2, h1] at this
    exact this
  obtain ⟨sk, hsk⟩ : ∃ x, sgnK h key = x := ⟨_, rfl⟩
  obtain ⟨X, hX⟩ : ∃ x, sgnH h key = x := ⟨_, rfl⟩
  rw [hsk, hX] at HSG HPX HPA HVX HSX
  obtain ⟨hb, hhb⟩ : ∃ x, headB X = x := ⟨_, rfl⟩
  rw [hhb] at HPX HPA
  have HPS2 : Hid (∀ W, Ext w W → Calls Tryd.prog 27 #[.string s] W fun e w' => e = .returned (.tuple #[(headR s).1.val, errR (headR s).2]) ∧ Ext W w') := HPS
  obtain ⟨Y, yk, hY⟩ : ∃ x y, headR s = (x, y) := ⟨_, _, rfl⟩
  rw [hY] at HPS2 HPY
  have HPS3 : Hid (∀ W, Ext w W → Calls Tryd.prog 27 #[.string s] W fun e w' => e = .returned (.tuple #[Y.val, errR yk]) ∧ Ext W w') := HPS2
  have HPY3 : Hid (yk = 0 → ∀ W, Ext w W → Calls Tryd.prog 26 #[Y.val] W fun e w' => e = .returned (.tuple #[.string s, .nilIface]) ∧ Ext W w') := HPY
  clear v1 v2 v3 v4 ho hsg hsk hX hhb hY HPS HPS2 HPY hG hP hM gh gk
  obtain ⟨h0, h1, h2, h3⟩ := h
  obtain ⟨x0, x1, x2, x3⟩ := X
  obtain ⟨y0, y1, y2, y3⟩ := Y
  simp only [Hd.val, blank] at *
  have A0 := Bk.at_ w 40 #[.int .i64 h0, .int .i64 h1, .int .i64 h2, .int .i64 h3] w.heap.size rfl
  have e0 : Ext w (w.alloc (.cells #[.int .i64 h0, .int .i64 h1, .int .i64 h2, .int .i64 h3] 40)) := by (repeat (with_reducible first | exact Ext.refl _ | assumption | refine Ext.drew ?_ | refine Ext.drewN ?_ _ | refine Ext.alloc ?_ _ | refine Ext.trans ?_ (by with_reducible assumption)))
  go_enter Tryd.func5, Tryd.ntmps5
  go_upto_region 1 with (fail)
  generalize w.alloc (.cells #[.int .i64 h0, .int .i64 h1, .int .i64 h2, .int .i64 h3] 40) = W0 at *
  obtain ⟨g0, hg0⟩ : ∃ g, w.heap.size = g := ⟨_, rfl⟩
  rw [hg0] at A0
  try rw [hg0]
  have HE0 := Lib.hid e0
  clear e0 hg0
  have B1 := Bk.at_ W0 40 #[.int .i64 3, .int .i64 255, .int .i64 9, .int .i64 0] W0.heap.size rfl
  have e1 : Ext W0 (W0.alloc (.cells #[.int .i64 3, .int .i64 255, .int .i64 9, .int .i64 0] 40)) := (Ext.refl _).alloc _
  go_upto_region 2 with (fail)
  generalize W0.alloc (.cells #[.int .i64 3, .int .i64 255, .int .i64 9, .int .i64 0] 40) = W1 at *
  generalize W0.heap.size = g1 at *
  have HE1 := Lib.hid (HE0.out.trans e1)
  have HA1 := Lib.hid (A0.ext e1)
  have z0 := B1.cell 0
  have z1 := B1.cell 1
  have z2 := B1.cell 2
  have z3 := B1.cell 3
  clear e1 A0 HE0
  go_wp2_with fail
  refine (HS1.out _ HE1.out).mono ?_
  rintro _ w2 ⟨rfl, hb2⟩
  clear z0 z1 z2 z3 B1
  have B2 := Bk.at_ w2 40 #[.int .i64 3, .int .i64 255, .int .i64 9, .int .i64 sg] w2.heap.size rfl
  have e2 : Ext W1 (w2.alloc (.cells #[.int .i64 3, .int .i64 255, .int .i64 9, .int .i64 sg] 40)) := hb2.alloc _
  go_upto_region 3 with (fail)
  generalize w2.alloc (.cells #[.int .i64 3, .int .i64 255, .int .i64 9, .int .i64 sg] 40) = W2 at *
  generalize w2.heap.size = g2 at *
  have HE2 := Lib.hid (HE1.out.trans e2)
  have HA2 := Lib.hid (HA1.out.ext e2)
  have q0 : ∀ x : WE W2, x.W.cell? ⟨g2, 0, none⟩ = some (.int .i64 3) := fun x => (B2.ext x.h).cell 0
  have q1 : ∀ x : WE W2, x.W.cell? ⟨g2, 1, none⟩ = some (.int .i64 255) := fun x => (B2.ext x.h).cell 1
  have q2 : ∀ x : WE W2, x.W.cell? ⟨g2, 2, none⟩ = some (.int .i64 9) := fun x => (B2.ext x.h).cell 2
  have q3 : ∀ x : WE W2, x.W.cell? ⟨g2, 3, none⟩ = some (.int .i64 sg) := fun x => (B2.ext x.h).cell 3
  clear e2 HE1 HA1 hb2 HS1
  (refine wp_region_ext (w0 := W2) (by kernel_rfl) (by kernel_rfl) (by (repeat (with_reducible first | exact Ext.refl _ | assumption | refine Ext.drew ?_ | refine Ext.drewN ?_ _ | refine Ext.alloc ?_ _ | refine Ext.trans ?_ (by with_reducible assumption)))) ?_; (repeat (go_big_quiet_step ((first
    | (go_at_call 12; exact quietE (HSM.out _))
    | (go_at_call 25; exact quietE (HV1.out _ (HE2.out.trans (WE.h _)))))))); refine wpQuiet_nil ?_)
  intro w3 hb3
  clear q0 q1 q2 q3 B2 HSM HV1
  have HE3 := Lib.hid (HE2.out.trans hb3)
  have A3 := HA2.out.ext hb3
  have z0 := A3.cell 0
  have z1 := A3.cell 1
  have z2 := A3.cell 2
  have z3 := A3.cell 3
  clear HE2 HA2 hb3
  go_wp2_with fail
  refine (HSG.out _ HE3.out).mono ?_
  rintro _ w4 ⟨rfl, hb4⟩
  clear z0 z1 z2 z3 A3 HSG
  have B4 := Bk.at_ w4 40 #[.int .i64 x0, .int .i64 x1, .int .i64 x2, .int .i64 x3] w4.heap.size rfl
  have e4 : Ext w (w4.alloc (.cells #[.int .i64 x0, .int .i64 x1, .int .i64 x2, .int .i64 x3] 40)) := (HE3.out.trans hb4).alloc _
  go_upto_region 6 with (fail)
  generalize w4.alloc (.cells #[.int .i64 x0, .int .i64 x1, .int .i64 x2, .int .i64 x3] 40) = W4 at *
  generalize w4.heap.size = g4 at *
  have HE4 := Lib.hid e4
  have HB4 := Lib.hid B4
  clear e4 B4 hb4 HE3
  obtain ⟨kb, hkb⟩ : ∃ b, isOk sk = b := ⟨_, rfl⟩
  have HKB := Lib.hid hkb
  go_upto_if 46 with (fail)
  try rw [hkb]
  clear hkb
  go_cut [12, 13, 14, 15, 16] (fun _ _ _ _ _ wc => Ext W4 wc)
  case first =>
    as_aux_lemma =>
    cases kb with
    | false =>
      go_wp2_with fail
      go_meet
      exact Ext.refl _
    | true =>
      have hk := isOk_true HKB.out
      have HP2 := Lib.hid (HPX.out hk)
      have HA2 := Lib.hid (HPA.out hk)
      have HV2 := Lib.hid (HVX.out hk)
      have HS2 := Lib.hid (HSX.out hk)
      clear hk HKB HPX HPA HVX HSX
      have z0 := HB4.out.cell 0
      have z1 := HB4.out.cell 1
      have z2 := HB4.out.cell 2
      have z3 := HB4.out.cell 3
      go_wp2_with fail
      refine (HP2.out _ HE4.out).mono ?_
      rintro _ w5 ⟨rfl, hb5⟩
      have e5 := HE4.out.trans hb5
      clear z0 z1 z2 z3
      go_wp2_with fail
      refine (HA2.out _ e5).mono ?_
      rintro _ w6 ⟨rfl, hb6⟩
      have HE6 := Lib.hid (e5.trans hb6)
      have B6 := Bk.at_ w6 40 #[.int .i64 x0, .int .i64 x1, .int .i64 x2, .int .i64 x3] w6.heap.size rfl
      have e46 : Ext W4 (w6.alloc (.cells #[.int .i64 x0, .int .i64 x1, .int .i64 x2, .int .i64 x3] 40)) := (hb5.trans hb6).alloc _
      have hge : W4.heap.size ≤ w6.heap.size := (hb5.trans hb6).size
      go_upto_region 9 with (fail)
      generalize w6.alloc (.cells #[.int .i64 x0, .int .i64 x1, .int .i64 x2, .int .i64 x3] 40) = W6 at *
      generalize w6.heap.size = g6 at *
      have HE46 := Lib.hid e46
      have HGE := Lib.hid hge
      have z0 := (HB4.out.ext e46).cell 0
      have z1 := (HB4.out.ext e46).cell 1
      have z2 := (HB4.out.ext e46).cell 2
      have z3 := (HB4.out.ext e46).cell 3
      have u0 := B6.cell 0
      have u1 := B6.cell 1
      have u2 := B6.cell 2
      have u3 := B6.cell 3
      clear hb5 hb6 e5 e46 hge HE6
      go_wp2_with fail
      refine (HV2.out _ (HE4.out.trans HE46.out)).mono ?_
      rintro _ w7 ⟨rfl, hb7⟩
      have B7 := B6.ext hb7
      clear z0 z1 z2 z3 u0 u1 u2 u3
      have f7 := B7.frozen 3
      have u3 := B7.cell 3
      go_upto_region 12 with (fail)
      have B8 : Bk (w7.setCell ⟨g6, 3, none⟩ (.int .i64 0)) g6 40 #[.int .i64 x0, .int .i64 x1, .int .i64 x2, .int .i64 0] := B7.set_ 3 _
      have e48 : Ext W4 (w7.setCell ⟨g6, 3, none⟩ (.int .i64 0)) := (HE46.out.trans hb7).setCell HGE.out _
      generalize w7.setCell ⟨g6, 3, none⟩ (.int .i64 0) = W8 at *
      have HE48 := Lib.hid e48
      clear B7 B6 f7 u3 hb7 e48
      have u0 := B8.cell 0
      have u1 := B8.cell 1
      have u2 := B8.cell 2
      have u3 := B8.cell 3
      go_wp2_with fail
      refine (HS2.out _ (HE4.out.trans HE48.out)).mono ?_
      rintro _ w9 ⟨rfl, hb9⟩
      have B9 := Bk.at_ w9 40 #[.int .i64 x0, .int .i64 x1, .int .i64 x2, .int .i64 x3] w9.heap.size rfl
      have e49 : Ext W4 (w9.alloc (.cells #[.int .i64 x0, .int .i64 x1, .int .i64 x2, .int .i64 x3] 40)) := (HE48.out.trans hb9).alloc _
      clear u0 u1 u2 u3
      go_upto_region 13 with (fail)
      generalize w9.alloc (.cells #[.int .i64 x0, .int .i64 x1, .int .i64 x2, .int .i64 x3] 40) = W9 at *
      generalize w9.heap.size = g9 at *
      have HE49 := Lib.hid e49
      have z0 := (HB4.out.ext e49).cell 0
      have z1 := (HB4.out.ext e49).cell 1
      have z2 := (HB4.out.ext e49).cell 2
      have z3 := (HB4.out.ext e49).cell 3
      have u0 := B9.cell 0
      have u1 := B9.cell 1
      have u2 := B9.cell 2
      have u3 := B9.cell 3
      clear e49 hb9
      go_wp2_with fail
      go_meet
      exact HE49.out
  case rest =>
  as_aux_lemma =>
  have HE5 := Lib.hid (HE4.out.trans hcut)
  obtain ⟨w5, rfl⟩ : ∃ W, W = wc := ⟨_, rfl⟩
  clear hcut HE4 HB4 HPX HPA HVX HSX HKB
  go_wp2_with fail
  refine (HPS3.out _ HE5.out).mono ?_
  rintro _ w6 ⟨rfl, hb6⟩
  have B6 := Bk.at_ w6 40 #[.int .i64 y0, .int .i64 y1, .int .i64 y2, .int .i64 y3] w6.heap.size rfl
  have e6 : Ext w (w6.alloc (.cells #[.int .i64 y0, .int .i64 y1, .int .i64 y2, .int .i64 y3] 40)) := (HE5.out.trans hb6).alloc _
  go_upto_region 16 with (fail)
  generalize w6.alloc (.cells #[.int .i64 y0, .int .i64 y1, .int .i64 y2, .int .i64 y3] 40) = W6 at *
  generalize w6.heap.size = g6 at *
  have HE6 := Lib.hid e6
  clear hb6 e6 HE5
  by_cases hy : yk = 0
  · have HPZ := Lib.hid (HPY3.out hy)
    subst hy
    rw [errR_0]
    have u0 := B6.cell 0
    have u1 := B6.cell 1
    have u2 := B6.cell 2
    have u3 := B6.cell 3
    go_wp2_with fail
    refine (HPZ.out _ HE6.out).mono ?_
    rintro _ w7 ⟨rfl, hb7⟩
    have e7 := HE6.out.trans hb7
    go_wp2_with fail
    go_ret
    exact ⟨ret_bool (by simp), e7⟩
  · have hok := isOk_no hy
    clear hy
    go_wp2_with fail
    go_ret
    exact ⟨rfl, HE6.out⟩
end Go.Proofs.YtelcabjhbgkfmaaDoor.headBack
