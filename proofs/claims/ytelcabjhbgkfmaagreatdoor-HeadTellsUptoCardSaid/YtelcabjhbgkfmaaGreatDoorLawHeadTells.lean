/- HeadTells: the walk. -/
import Derived.Test.YtelcabjhbgkfmaaGreatDoorRHead
import Derived.Test.YtelcabjhbgkfmaaGreatDoorBetter
import Derived.Test.YtelcabjhbgkfmaaGreatDoorHdEq
import Derived.Test.YtelcabjhbgkfmaaGreatDoorError
import Derived.Deep.DeepCutAuto
namespace Go.Proofs.YtelcabjhbgkfmaaGreatDoor.headTells
open Go.RowKit Go.WideShapes
set_option linter.unusedVariables false
attribute [local go_sem ↓] Go.wp_at_zero Go.wp_at_succ

set_option maxRecDepth 100000 in
set_option maxHeartbeats 16000000 in
theorem walk (h o : Hd) (key : Int) (s : ByteArray) (w : World) (gh : h.good) (go : o.good) (gk : igood key) (hs : s.size ≤ 1048576) (hG : StrG w) (hP : PowG w) (hM : MaxG w) (hg : ErrG w) :
    Calls Tryz.prog 3 #[h.val, o.val, .int .i64 key, .string s] w fun e w' => e = .returned (.bool true) ∧ Ext w w' := by
  obtain ⟨hE, hN, hG0⟩ := errR_rules
  have hES := hd_eql_self
  have hGd := hd_guard
  have HRH := Lib.hid fun W => RHead_any h W
  have HRO := Lib.hid fun W => RHead_any o W
  have HRB := Lib.hid fun W => RHead_any (blank h) W
  have HCK := Lib.hid fun W => HCheck_any h W
  have HTX : Hid (hdK h = 0 → ∀ W, Calls Tryz.prog 12 #[h.val] W fun e w' => e = .returned (.string (hprT h)) ∧ Ext W w') := Lib.hid fun k W => by
    have hok : h.ok = true := by
      cases ho : h.ok with
      | true => rfl
      | false => rw [show hdK h = 1 from if_neg (by rw [ho]; decide)] at k; cases k
    have := RHeadText_any h W hok
    rw [show hprT h = headB h from if_pos hok]; exact this
  have HTE : Hid (hdK h ≠ 0 → hprT h = ⟨#[]⟩) := Lib.hid fun k => by
    cases ho : h.ok with
    | true => exact absurd (if_pos ho) k
    | false => exact if_neg (by rw [ho]; decide)
  have HPR := Lib.hid fun W (e : Ext w W) => HPrint_any h W (hG.deb.ext e) (hP.ext e)
  have HRD : Hid (∀ W, Calls Tryz.prog 14 #[.string s] W fun e w' => e = .returned (.tuple #[(headR s).1.val, .int .i64 (headR s).2]) ∧ Ext W w') := Lib.hid fun W => RReadHead_any s W hs
  have HPA : Hid (∀ W, Ext w W → Calls Tryz.prog 15 #[.string s] W fun e w' => e = .returned (.tuple #[(headR s).1.val, errR (headR s).2]) ∧ Ext W w') := Lib.hid fun W e => HParse_any s W hs (hG.ext e) (hP.ext e) (hM.ext e)
  have HVF := Lib.hid fun W (e : Ext w W) => Verify_any h key W (hG.deb.ext e) (hP.ext e)
  have HRV := Lib.hid fun W => RVerify_any h key W
  have HBT := Lib.hid fun W => Better_any h o W
  have HKB := Lib.hid fun W => RKeyB_any key W
  have HSI : Hid (sgnK h key = 0 → ∀ W, Calls Tryz.prog 20 #[(blank h).val, .int .i64 key] W fun e w' => e = .returned (.int .i64 (signI h key)) ∧ Ext W w') := Lib.hid fun k W => by
    obtain ⟨_, h2, h3, _⟩ := sgn_ver k
    obtain ⟨a1, a2, a3, a4, a5, a6⟩ := Hd.ok_parts h3
    exact RSigned_any (blank h) key W ⟨a1, a2, a3, a4⟩ a5 h2
  have HSG := Lib.hid fun W (e : Ext w W) => Sign_any h key W (hG.deb.ext e) (hP.ext e)
  have HS0 : Hid (sgnK h key = 0 → sgnH h key = ⟨h.size, h.root, h.time, signI h key⟩) := Lib.hid fun k => (sgn_ver k).2.2.2
  have HS1 : Hid (sgnK h key ≠ 0 → sgnH h key = ⟨0, 0, 0, 0⟩) := Lib.hid fun k => by
    unfold sgnK at k
    unfold sgnH
    split at k
    · exact absurd rfl k
    · rename_i hh; rw [if_neg hh]
  have HSK1 : Hid (keyI key = true → sgnK h key = hdK (blank h)) := Lib.hid fun k => by
    unfold sgnK hdK
    rw [k]
    cases (blank h).ok <;> rfl
  have HSK2 : Hid (keyI key = false → sgnK h key = 1) := Lib.hid fun k => by
    unfold sgnK; rw [k]; rfl
  have HTW : Hid (twoK h o = if hdK h = 0 then hdK o else hdK h) := rfl
  have HBB : Hid (betB2 h o = (isOk (twoK h o) && better h o)) := rfl
  have HBE : Hid (better h o = decide (o.size < h.size ∨ (h.size = o.size ∧ o.time < h.time))) := rfl
  have HG := Lib.hid hg
  obtain ⟨hk, hhk⟩ : ∃ x, hdK h = x := ⟨_, rfl⟩
  obtain ⟨ok, hok⟩ : ∃ x, hdK o = x := ⟨_, rfl⟩
  obtain ⟨bk, hbk⟩ : ∃ x, hdK (blank h) = x := ⟨_, rfl⟩
  obtain ⟨tx, htx⟩ : ∃ x, hprT h = x := ⟨_, rfl⟩
  obtain ⟨vk, hvk⟩ : ∃ x, verK h key = x := ⟨_, rfl⟩
  obtain ⟨tk, htk⟩ : ∃ x, twoK h o = x := ⟨_, rfl⟩
  obtain ⟨bb, hbb⟩ : ∃ x, betB2 h o = x := ⟨_, rfl⟩
  obtain ⟨br, hbr⟩ : ∃ x, better h o = x := ⟨_, rfl⟩
  obtain ⟨kb, hkb⟩ : ∃ x, keyI key = x := ⟨_, rfl⟩
  obtain ⟨sk, hsk⟩ : ∃ x, sgnK h key = x := ⟨_, rfl⟩
  obtain ⟨sg, hsg⟩ : ∃ x, signI h key = x := ⟨_, rfl⟩
  obtain ⟨X, hX⟩ : ∃ x, sgnH h key = x := ⟨_, rfl⟩
  obtain ⟨Y, yk, hY⟩ : ∃ x y, headR s = (x, y) := ⟨_, _, rfl⟩
  rw [hhk] at HRH HCK HTX HTE HPR HTW
  rw [hok] at HRO HTW
  rw [hbk] at HRB HSK1
  rw [htx] at HTX HTE HPR
  rw [hvk] at HVF HRV
  rw [htk] at HBT HTW HBB
  rw [hbb] at HBT HBB
  rw [hbr] at HBB HBE
  rw [hkb] at HKB HSK1 HSK2
  rw [hsk] at HSI HSG HS0 HS1 HSK1 HSK2
  rw [hsg] at HSI HS0
  rw [hX] at HSG HS0 HS1
  have HRD2 : Hid (∀ W, Calls Tryz.prog 14 #[.string s] W fun e w' => e = .returned (.tuple #[Y.val, .int .i64 yk]) ∧ Ext W w') := by rw [hY] at HRD; exact HRD
  have HPA2 : Hid (∀ W, Ext w W → Calls Tryz.prog 15 #[.string s] W fun e w' => e = .returned (.tuple #[Y.val, errR yk]) ∧ Ext W w') := by rw [hY] at HPA; exact HPA
  clear hhk hok hbk htx hvk htk hbb hbr hkb hsk hsg hX hY HRD HPA hG hP hM hg gh go gk
  obtain ⟨a0, a1, a2, a3⟩ := h
  obtain ⟨b0, b1, b2, b3⟩ := o
  obtain ⟨x0, x1, x2, x3⟩ := X
  obtain ⟨y0, y1, y2, y3⟩ := Y
  simp only [Hd.val, blank] at *
  have A0 := Bk.at_ w 23 #[.int .i64 a0, .int .i64 a1, .int .i64 a2, .int .i64 a3] w.heap.size rfl
  have B1 := Bk.at_ (w.alloc (.cells #[.int .i64 a0, .int .i64 a1, .int .i64 a2, .int .i64 a3] 23)) 23 #[.int .i64 b0, .int .i64 b1, .int .i64 b2, .int .i64 b3] (w.heap.size + 1) (by simp)
  have A1 := A0.alloc (.cells #[.int .i64 b0, .int .i64 b1, .int .i64 b2, .int .i64 b3] 23)
  have e1 : Ext w ((w.alloc (.cells #[.int .i64 a0, .int .i64 a1, .int .i64 a2, .int .i64 a3] 23)).alloc (.cells #[.int .i64 b0, .int .i64 b1, .int .i64 b2, .int .i64 b3] 23)) := by (repeat (with_reducible first | exact Ext.refl _ | assumption | refine Ext.drew ?_ | refine Ext.drewN ?_ _ | refine Ext.alloc ?_ _ | refine Ext.trans ?_ (by with_reducible assumption)))
  clear A0
  go_enter Tryz.func3, Tryz.ntmps3
  go_upto_region 1 with (fail)
  generalize ((w.alloc (.cells #[.int .i64 a0, .int .i64 a1, .int .i64 a2, .int .i64 a3] 23)).alloc (.cells #[.int .i64 b0, .int .i64 b1, .int .i64 b2, .int .i64 b3] 23)) = W0 at *
  obtain ⟨g0, hg0⟩ : ∃ g, w.heap.size = g := ⟨_, rfl⟩
  rw [hg0] at A1 B1
  try rw [hg0]
  have HE0 := Lib.hid e1
  have HA0 := Lib.hid A1
  have HB0 := Lib.hid B1
  clear e1 hg0 A1 B1
  have c0 := HA0.out.cell 0
  have c1 := HA0.out.cell 1
  have c2 := HA0.out.cell 2
  have c3 := HA0.out.cell 3
  go_wp2_with fail
  refine (HRH.out _).mono ?_
  rintro _ w1 ⟨rfl, hb1⟩
  have HE1 := Lib.hid (HE0.out.trans hb1)
  have A1 := HA0.out.ext hb1
  clear c0 c1 c2 c3
  have c0 := A1.cell 0
  have c1 := A1.cell 1
  have c2 := A1.cell 2
  have c3 := A1.cell 3
  go_wp2_with fail
  refine (HCK.out _).mono ?_
  rintro _ w2 ⟨rfl, hb2⟩
  have e2 := HE1.out.trans hb2
  clear c0 c1 c2 c3
  go_wp2_with fail
  refine (Error_is hk _ (HG.out.ext e2)).mono ?_
  rintro _ w3 ⟨rfl, hb3⟩
  have e03 := (hb1.trans hb2).trans hb3
  have HE3 := Lib.hid (HE0.out.trans e03)
  have HA3 := Lib.hid (HA0.out.ext e03)
  have HB3 := Lib.hid (HB0.out.ext e03)
  clear hb1 hb2 hb3 e2 e03 A1 HE1 HE0 HA0 HB0 HRH HCK
  go_upto_if 35 with (fail)
  obtain ⟨k1, hk1⟩ : ∃ kb : Bool, (hk == 0) = kb := ⟨_, rfl⟩
  rw [hk1]
  have HK1 := Lib.hid hk1
  clear hk1
  go_cut [11] (fun v wc => v = .string tx ∧ Ext w3 wc)
  case first =>
    as_aux_lemma =>
    cases k1 with
    | true =>
      have HT := Lib.hid (HTX.out (by simpa using HK1.out))
      have c0 := HA3.out.cell 0
      have c1 := HA3.out.cell 1
      have c2 := HA3.out.cell 2
      have c3 := HA3.out.cell 3
      go_wp2_with fail
      refine (HT.out _).mono ?_
      rintro _ w4 ⟨rfl, hb4⟩
      go_wp2_with fail
      go_meet
      exact ⟨rfl, hb4⟩
    | false =>
      obtain rfl := HTE.out (by simpa using HK1.out)
      go_wp2_with fail
      go_meet
      exact ⟨rfl, Ext.refl _⟩
  case rest =>
  as_aux_lemma =>
  obtain ⟨rfl, hb4⟩ := hcut
  obtain ⟨w4, rfl⟩ : ∃ W, W = wc := ⟨_, rfl⟩
  have HE4 := Lib.hid (HE3.out.trans hb4)
  have HA4 := Lib.hid (HA3.out.ext hb4)
  have HB4 := Lib.hid (HB3.out.ext hb4)
  clear HE3 HA3 HB3 hb4 HTX HTE
  have c0 := HA4.out.cell 0
  have c1 := HA4.out.cell 1
  have c2 := HA4.out.cell 2
  have c3 := HA4.out.cell 3
  go_wp2_with fail
  refine (HPR.out _ HE4.out).mono ?_
  rintro _ w5 ⟨rfl, hb5⟩
  have e5 := HE4.out.trans hb5
  clear c0 c1 c2 c3
  go_wp2_with fail
  refine (Error_is hk _ (HG.out.ext e5)).mono ?_
  rintro _ w6 ⟨rfl, hb6⟩
  have HE6 := Lib.hid (e5.trans hb6)
  have h46 := hb5.trans hb6
  go_wp2_with fail
  refine (HRD2.out _).mono ?_
  rintro _ w7 ⟨rfl, hb7⟩
  have X7 := Bk.at_ w7 23 #[.int .i64 y0, .int .i64 y1, .int .i64 y2, .int .i64 y3] w7.heap.size rfl
  have h47 : Ext w4 (w7.alloc (.cells #[.int .i64 y0, .int .i64 y1, .int .i64 y2, .int .i64 y3] 23)) := (h46.trans hb7).alloc _
  go_upto_region 9 with (fail)
  generalize w7.alloc (.cells #[.int .i64 y0, .int .i64 y1, .int .i64 y2, .int .i64 y3] 23) = W7 at *
  generalize w7.heap.size = g15 at *
  have HE7 := Lib.hid (HE4.out.trans h47)
  clear hb5 hb6 hb7 e5 h46 HE6 HPR HRD2
  go_wp2_with fail
  refine (HPA2.out _ HE7.out).mono ?_
  rintro _ w8 ⟨rfl, hb8⟩
  have Y8 := Bk.at_ w8 23 #[.int .i64 y0, .int .i64 y1, .int .i64 y2, .int .i64 y3] w8.heap.size rfl
  have h78 : Ext W7 (w8.alloc (.cells #[.int .i64 y0, .int .i64 y1, .int .i64 y2, .int .i64 y3] 23)) := hb8.alloc _
  have X8 := X7.ext h78
  have h48 := h47.trans h78
  go_upto_region 10 with (fail)
  generalize w8.alloc (.cells #[.int .i64 y0, .int .i64 y1, .int .i64 y2, .int .i64 y3] 23) = W8 at *
  generalize w8.heap.size = g17 at *
  have HE8 := Lib.hid (HE4.out.trans h48)
  clear hb8 h78 h47 X7 HE7 HPA2
  go_wp2_with fail
  refine (Error_is yk _ (HG.out.ext HE8.out)).mono ?_
  rintro _ w9 ⟨rfl, hb9⟩
  have HE9 := Lib.hid (HE8.out.trans hb9)
  have HA9 := Lib.hid (HA4.out.ext (h48.trans hb9))
  have HB9 := Lib.hid (HB4.out.ext (h48.trans hb9))
  have HX9 := Lib.hid (X8.ext hb9)
  have HY9 := Lib.hid (Y8.ext hb9)
  clear HE8 HE4 HA4 HB4 X8 Y8 h48 hb9
  have q0 : ∀ x : WE w9, x.W.cell? ⟨g0, 0, none⟩ = some (.int .i64 a0) := fun x => (HA9.out.ext x.h).cell 0
  have q1 : ∀ x : WE w9, x.W.cell? ⟨g0, 1, none⟩ = some (.int .i64 a1) := fun x => (HA9.out.ext x.h).cell 1
  have q2 : ∀ x : WE w9, x.W.cell? ⟨g0, 2, none⟩ = some (.int .i64 a2) := fun x => (HA9.out.ext x.h).cell 2
  have q3 : ∀ x : WE w9, x.W.cell? ⟨g0, 3, none⟩ = some (.int .i64 a3) := fun x => (HA9.out.ext x.h).cell 3
  have HER := Lib.hid fun W (e : Ext w W) => Error_is vk W (HG.out.ext e)
  go_upto_region 11 with (fail)
  (refine wp_region_ext (w0 := w9) (by kernel_rfl) (by kernel_rfl) (by (repeat (with_reducible first | exact Ext.refl _ | assumption | refine Ext.drew ?_ | refine Ext.drewN ?_ _ | refine Ext.alloc ?_ _ | refine Ext.trans ?_ (by with_reducible assumption)))) ?_; (repeat (go_big_quiet_step ((first
    | (go_at_call 16; exact quietE (HVF.out _ (HE9.out.trans (WE.h _))))
    | (go_at_call 17; exact quietE (HRV.out _))
    | (go_at_call 10; exact quietE (HER.out _ (HE9.out.trans (WE.h _)))))))); refine wpQuiet_nil ?_)
  intro w10 hb10
  clear q0 q1 q2 q3 HER HVF HRV
  have HE10 := Lib.hid (HE9.out.trans hb10)
  have HA10 := Lib.hid (HA9.out.ext hb10)
  have HB10 := Lib.hid (HB9.out.ext hb10)
  have HX10 := Lib.hid (HX9.out.ext hb10)
  have HY10 := Lib.hid (HY9.out.ext hb10)
  clear HE9 HA9 HB9 HX9 HY9 hb10
  go_upto_if 67 with (fail)
  rw [HK1.out]
  go_cut [9] (fun v wc => v = .int .i64 tk ∧ Ext w10 wc)
  case first =>
    as_aux_lemma =>
    cases k1 with
    | true =>
      obtain rfl : tk = ok := HTW.out.trans (if_pos (by simpa using HK1.out))
      have c0 := HB10.out.cell 0
      have c1 := HB10.out.cell 1
      have c2 := HB10.out.cell 2
      have c3 := HB10.out.cell 3
      go_wp2_with fail
      refine (HRO.out _).mono ?_
      rintro _ w11 ⟨rfl, hb11⟩
      go_wp2_with fail
      go_meet
      exact ⟨rfl, hb11⟩
    | false =>
      obtain rfl : tk = hk := HTW.out.trans (if_neg (by simpa using HK1.out))
      go_wp2_with fail
      go_meet
      exact ⟨rfl, Ext.refl _⟩
  case rest =>
  as_aux_lemma =>
  obtain ⟨rfl, hb11⟩ := hcut
  obtain ⟨w11, rfl⟩ : ∃ W, W = wc := ⟨_, rfl⟩
  have HE11 := Lib.hid (HE10.out.trans hb11)
  have HA11 := Lib.hid (HA10.out.ext hb11)
  have HB11 := Lib.hid (HB10.out.ext hb11)
  have HX11 := Lib.hid (HX10.out.ext hb11)
  have HY11 := Lib.hid (HY10.out.ext hb11)
  clear HE10 HA10 HB10 HX10 HY10 hb11 HRO HTW HK1
  have c0 := HA11.out.cell 0
  have c2 := HA11.out.cell 2
  have d0 := HB11.out.cell 0
  have d2 := HB11.out.cell 2
  go_upto_region 14 with (fail)
  go_cut [20] (fun v wc => v = .bool bb ∧ w11 = wc)
  case first =>
    as_aux_lemma =>
    by_cases h0 : tk = 0
    · subst h0
      by_cases h1 : b0 < a0
      · obtain rfl : bb = true := by rw [HBB.out, HBE.out]; simp [h1]; rfl
        go_wp2_with fail
        go_meet
        exact ⟨rfl, rfl⟩
      · by_cases h2 : a0 = b0
        · subst h2
          by_cases h3 : b2 < a2
          · obtain rfl : bb = true := by rw [HBB.out, HBE.out]; simp [h3]; rfl
            go_wp2_with fail
            go_meet
            exact ⟨rfl, rfl⟩
          · obtain rfl : bb = false := by rw [HBB.out, HBE.out]; simp [h1, h3]
            go_wp2_with fail
            go_meet
            exact ⟨rfl, rfl⟩
        · obtain rfl : bb = false := by rw [HBB.out, HBE.out]; simp [h1, h2]
          have q2 : (a0 == b0) = false := by simp [h2]
          clear h2
          go_wp2_with fail
          go_meet
          exact ⟨rfl, rfl⟩
    · obtain rfl : bb = false := by rw [HBB.out, isOk_no h0]; rfl
      have q2 : (tk == 0) = false := by simp [h0]
      clear h0
      go_wp2_with fail
      go_meet
      exact ⟨rfl, rfl⟩
  case rest =>
  as_aux_lemma =>
  obtain ⟨rfl, rfl⟩ := hcut
  clear HBB HBE c0 c2 d0 d2
  have c0 := HA11.out.cell 0
  have c1 := HA11.out.cell 1
  have c2 := HA11.out.cell 2
  have c3 := HA11.out.cell 3
  have d0 := HB11.out.cell 0
  have d1 := HB11.out.cell 1
  have d2 := HB11.out.cell 2
  have d3 := HB11.out.cell 3
  go_wp2_with fail
  refine (HBT.out _).mono ?_
  rintro _ w12 ⟨rfl, hb12⟩
  have e12 := HE11.out.trans hb12
  clear c0 c1 c2 c3 d0 d1 d2 d3
  go_wp2_with fail
  refine (Error_is tk _ (HG.out.ext e12)).mono ?_
  rintro _ w13 ⟨rfl, hb13⟩
  have h13 := hb12.trans hb13
  have HE13 := Lib.hid (HE11.out.trans h13)
  have HA13 := Lib.hid (HA11.out.ext h13)
  have HX13 := Lib.hid (HX11.out.ext h13)
  have HY13 := Lib.hid (HY11.out.ext h13)
  clear hb12 hb13 e12 h13 HE11 HA11 HB11 HX11 HY11 HBT
  have c0 := HA13.out.cell 0
  have c1 := HA13.out.cell 1
  have c2 := HA13.out.cell 2
  have c3 := HA13.out.cell 3
  have Z13 := Bk.at_ w13 23 #[.int .i64 a0, .int .i64 a1, .int .i64 a2, .int .i64 a3] w13.heap.size rfl
  have e13 : Ext w13 (w13.alloc (.cells #[.int .i64 a0, .int .i64 a1, .int .i64 a2, .int .i64 a3] 23)) := (Ext.refl _).alloc _
  go_upto_region 18 with (fail)
  generalize w13.alloc (.cells #[.int .i64 a0, .int .i64 a1, .int .i64 a2, .int .i64 a3] 23) = W13 at *
  obtain ⟨g23, hg23⟩ : ∃ g, w13.heap.size = g := ⟨_, rfl⟩
  rw [hg23] at Z13
  try rw [hg23]
  have f3 := Z13.frozen 3
  have z3 := Z13.cell 3
  clear c0 c1 c2 c3
  go_upto_region 19 with (fail)
  have Z14 : Bk (W13.setCell ⟨g23, 3, none⟩ (.int .i64 0)) g23 23 #[.int .i64 a0, .int .i64 a1, .int .i64 a2, .int .i64 0] := Z13.set_ 3 _
  have e14 : Ext w13 (W13.setCell ⟨g23, 3, none⟩ (.int .i64 0)) := e13.setCell (by rw [hg23]; exact Nat.le_refl _) _
  generalize W13.setCell ⟨g23, 3, none⟩ (.int .i64 0) = W14 at *
  have HE14 := Lib.hid (HE13.out.trans e14)
  have HA14 := Lib.hid (HA13.out.ext e14)
  have HX14 := Lib.hid (HX13.out.ext e14)
  have HY14 := Lib.hid (HY13.out.ext e14)
  have HZ14 := Lib.hid Z14
  clear e13 e14 f3 z3 Z13 Z14 hg23 HE13 HA13 HX13 HY13
  have z0 := HZ14.out.cell 0
  have z1 := HZ14.out.cell 1
  have z2 := HZ14.out.cell 2
  have z3 := HZ14.out.cell 3
  go_wp2_with fail
  refine (HKB.out _).mono ?_
  rintro _ _ ⟨rfl, rfl⟩
  go_wp2_with fail
  refine (HRB.out _).mono ?_
  rintro _ w15 ⟨rfl, hb15⟩
  clear z0 z1 z2 z3 HKB HRB
  have HE15 := Lib.hid (HE14.out.trans hb15)
  have HA15 := Lib.hid (HA14.out.ext hb15)
  have HX15 := Lib.hid (HX14.out.ext hb15)
  have HY15 := Lib.hid (HY14.out.ext hb15)
  have HZ15 := Lib.hid (HZ14.out.ext hb15)
  clear hb15 HE14 HA14 HX14 HY14 HZ14
  go_upto_if 109 with (fail)
  go_cut [9] (fun v wc => v = .int .i64 sk ∧ w15 = wc)
  case first =>
    as_aux_lemma =>
    cases kb with
    | true =>
      obtain rfl := HSK1.out rfl
      go_wp2_with fail
      go_meet
      exact ⟨rfl, rfl⟩
    | false =>
      obtain rfl := HSK2.out rfl
      go_wp2_with fail
      go_meet
      exact ⟨rfl, rfl⟩
  case rest =>
  as_aux_lemma =>
  obtain ⟨rfl, rfl⟩ := hcut
  have V16 := Bk.at_ w15 23 #[.int .i64 0, .int .i64 0, .int .i64 0, .int .i64 0] w15.heap.size rfl
  have e16 : Ext w15 (w15.alloc (.cells #[.int .i64 0, .int .i64 0, .int .i64 0, .int .i64 0] 23)) := (Ext.refl _).alloc _
  go_upto_if 111 with (fail)
  generalize w15.alloc (.cells #[.int .i64 0, .int .i64 0, .int .i64 0, .int .i64 0] 23) = W16 at *
  obtain ⟨g25, hg25⟩ : ∃ g, w15.heap.size = g := ⟨_, rfl⟩
  rw [hg25] at V16
  try rw [hg25]
  have HG25 := Lib.hid hg25
  have HV16 := Lib.hid V16
  have HE16 := Lib.hid e16
  have HZ16 := Lib.hid (HZ15.out.ext e16)
  obtain ⟨k2, hk2⟩ : ∃ kb : Bool, (sk == 0) = kb := ⟨_, rfl⟩
  rw [hk2]
  have HK2 := Lib.hid hk2
  clear hg25 V16 e16 hk2 HSK1 HSK2
  go_cut [9] (fun v wc => v = .int .i64 sk ∧ Ext w15 wc ∧ Bk wc g25 23 #[.int .i64 x0, .int .i64 x1, .int .i64 x2, .int .i64 x3])
  case first =>
    as_aux_lemma =>
    cases k2 with
    | true =>
      have hsk0 : sk = 0 := by simpa using HK2.out
      have HS := Lib.hid (HSI.out hsk0)
      have hX := HS0.out hsk0
      injection hX with h1 h2 h3 h4
      subst h1 h2 h3 h4
      clear hsk0 HK2 HSI HS0 HS1
      have z0 := HZ16.out.cell 0
      have z1 := HZ16.out.cell 1
      have z2 := HZ16.out.cell 2
      have z3 := HZ16.out.cell 3
      have f0 := HV16.out.frozen 0
      have f1 := HV16.out.frozen 1
      have f2 := HV16.out.frozen 2
      have f3 := HV16.out.frozen 3
      have v0 := HV16.out.cell 0
      have v1 := HV16.out.cell 1
      have v2 := HV16.out.cell 2
      have v3 := HV16.out.cell 3
      go_upto_region 26 with (fail)
      have V17 := HV16.out.put4 (.int .i64 x0) (.int .i64 x1) (.int .i64 x2) (.int .i64 0)
      have hne : g23 ≠ g25 := by have := HZ15.out.lt; rw [HG25.out] at this; omega
      have Z17 : Bk ((((W16.setCell ⟨g25, 0, none⟩ (.int .i64 x0)).setCell ⟨g25, 1, none⟩ (.int .i64 x1)).setCell ⟨g25, 2, none⟩ (.int .i64 x2)).setCell ⟨g25, 3, none⟩ (.int .i64 0)) g23 23 #[.int .i64 x0, .int .i64 x1, .int .i64 x2, .int .i64 0] := (((HZ16.out.far (p := ⟨g25, 0, none⟩) hne _).far (p := ⟨g25, 1, none⟩) hne _).far (p := ⟨g25, 2, none⟩) hne _).far (p := ⟨g25, 3, none⟩) hne _
      have E17 : Ext w15 ((((W16.setCell ⟨g25, 0, none⟩ (.int .i64 x0)).setCell ⟨g25, 1, none⟩ (.int .i64 x1)).setCell ⟨g25, 2, none⟩ (.int .i64 x2)).setCell ⟨g25, 3, none⟩ (.int .i64 0)) := HE16.out.put4 (by rw [HG25.out]; exact Nat.le_refl _) _ _ _ _
      generalize ((((W16.setCell ⟨g25, 0, none⟩ (.int .i64 x0)).setCell ⟨g25, 1, none⟩ (.int .i64 x1)).setCell ⟨g25, 2, none⟩ (.int .i64 x2)).setCell ⟨g25, 3, none⟩ (.int .i64 0)) = W17 at *
      clear z0 z1 z2 z3 f0 f1 f2 f3 v0 v1 v2 v3 hne
      have z0 := Z17.cell 0
      have z1 := Z17.cell 1
      have z2 := Z17.cell 2
      have z3 := Z17.cell 3
      have HE17 := Lib.hid E17
      have HV17 := Lib.hid V17
      clear E17 V17
      go_wp2_with fail
      refine (HS.out _).mono ?_
      rintro _ w18 ⟨rfl, hb18⟩
      have V18 := HV17.out.ext hb18
      have f3 := V18.frozen 3
      have v3 := V18.cell 3
      have e18 := HE17.out.trans hb18
      go_wp2_with fail
      go_meet
      exact ⟨rfl, e18.setCell (by rw [HG25.out]; exact Nat.le_refl _) _, V18.set_ 3 _⟩
    | false =>
      have hsk0 : sk ≠ 0 := by simpa using HK2.out
      have hX := HS1.out hsk0
      injection hX with h1 h2 h3 h4
      subst h1 h2 h3 h4
      clear hsk0
      go_wp2_with fail
      go_meet
      exact ⟨rfl, HE16.out, HV16.out⟩
  case rest =>
  as_aux_lemma =>
  obtain ⟨rfl, hb18, hV18⟩ := hcut
  obtain ⟨w18, rfl⟩ : ∃ W, W = wc := ⟨_, rfl⟩
  have HE18 := Lib.hid (HE15.out.trans hb18)
  have HA18 := Lib.hid (HA15.out.ext hb18)
  have HX18 := Lib.hid (HX15.out.ext hb18)
  have HY18 := Lib.hid (HY15.out.ext hb18)
  have HV18 := Lib.hid hV18
  clear hb18 hV18 HE15 HA15 HX15 HY15 HZ15 HZ16 HV16 HE16 HK2 HSI HS0 HS1
  have c0 := HA18.out.cell 0
  have c1 := HA18.out.cell 1
  have c2 := HA18.out.cell 2
  have c3 := HA18.out.cell 3
  go_wp2_with fail
  refine (HSG.out _ HE18.out).mono ?_
  rintro _ w19 ⟨rfl, hb19⟩
  have U20 := Bk.at_ w19 23 #[.int .i64 x0, .int .i64 x1, .int .i64 x2, .int .i64 x3] w19.heap.size rfl
  have e20 : Ext w18 (w19.alloc (.cells #[.int .i64 x0, .int .i64 x1, .int .i64 x2, .int .i64 x3] 23)) := hb19.alloc _
  clear c0 c1 c2 c3
  go_upto_region 28 with (fail)
  generalize w19.alloc (.cells #[.int .i64 x0, .int .i64 x1, .int .i64 x2, .int .i64 x3] 23) = W20 at *
  generalize w19.heap.size = g26 at *
  have e20' := HE18.out.trans e20
  go_wp2_with fail
  refine (Error_is sk _ (HG.out.ext e20')).mono ?_
  rintro _ w21 ⟨rfl, hb21⟩
  have h21 := e20.trans hb21
  have HE21 := Lib.hid (HE18.out.trans h21)
  have U21 := U20.ext hb21
  have X21 := HX18.out.ext h21
  have Y21 := HY18.out.ext h21
  have V21 := HV18.out.ext h21
  clear hb19 hb21 e20 e20' h21 U20 HE18 HA18 HX18 HY18 HV18 HSG
  have c0 := X21.cell 0
  have c1 := X21.cell 1
  have c2 := X21.cell 2
  have c3 := X21.cell 3
  have d0 := Y21.cell 0
  have d1 := Y21.cell 1
  have d2 := Y21.cell 2
  have d3 := Y21.cell 3
  have z0 := U21.cell 0
  have z1 := U21.cell 1
  have z2 := U21.cell 2
  have z3 := U21.cell 3
  have v0 := V21.cell 0
  have v1 := V21.cell 1
  have v2 := V21.cell 2
  have v3 := V21.cell 3
  go_wp2_with fail
  go_ret
  exact ⟨ret_bool (by simp), HE21.out⟩
end Go.Proofs.YtelcabjhbgkfmaaGreatDoor.headTells
