/- The references' mirror in memory: Hear. -/
import Derived.Test.YtnphbkjkeipmmaaGreatDoorJRunAnswers4
namespace Go.Proofs.YtnphbkjkeipmmaaGreatDoor
open Go.RowKit Go.WideShapes
set_option linter.unusedVariables false
attribute [local go_sem ↓] Go.wp_at_zero Go.wp_at_succ

theorem bet_time {a b : Hd} (h : a.size = b.size) : betB a b = decide (b.time < a.time) := by
  unfold betB
  rw [h]; simp
set_option maxRecDepth 100000 in
set_option maxHeartbeats 8000000 in
theorem RHearP_any (P : Nat → Prop) (mb : Nat) (va vw : Value) (m : Mi) (r : Rp) (A : Option Addr) (n c : Nat) (A' : Option Addr) (n' c' : Nat) (w : World) (h : MiAt 31 w mb va vw m) (hP : ∀ g, MFoot mb va vw g → P g) (hPn : ∀ g, w.heap.size ≤ g → P g)
    (hr : Rd w 2 A n c (r.ents.flatMap Ent.cells)) (hm : c ≤ maxLen) (hr' : Rd w 1 A' n' c' (r.proof.map (Value.int .i64))) (hm' : c' ≤ maxLen) :
    Calls Tryz.prog 38 #[.pointer (some ⟨mb, 0, none⟩), replyV r.what r.head A n c A' n' c'] w (RPost w P mb (m.hear r)) := by
  obtain ⟨rw_, rh, res, rps⟩ := r
  dsimp only at hr hr' ⊢
  have hgd := h.good
  have hww := m.want_what
  obtain ⟨o, ho⟩ : ∃ x, m.own.length = x := ⟨_, rfl⟩
  obtain ⟨wt, hwt⟩ : ∃ x, m.want = x := ⟨_, rfl⟩
  obtain ⟨ro, hro⟩ : ∃ x, rootE m.own = x := ⟨_, rfl⟩
  obtain ⟨ns, hns⟩ : ∃ x, m.next.size = x := ⟨_, rfl⟩
  obtain ⟨nr, hnr⟩ : ∃ x, m.next.root = x := ⟨_, rfl⟩
  obtain ⟨gk, hgk⟩ : ∃ x, gcheck ro o nr ns rps = x := ⟨_, rfl⟩
  obtain ⟨vk, hvk⟩ : ∃ v, verK rh m.key = v := ⟨_, rfl⟩
  obtain ⟨key, hkey⟩ : ∃ v, m.key = v := ⟨_, rfl⟩
  have hwnz : wt.what ≠ 0 := by rw [← hwt]; omega
  have hx := hr.lenE
  have hms : m.head.size = (o : Int) := by rw [hgd.size, ho]
  have ho200 : o ≤ 200 := by rw [← ho]; exact hgd.own_le
  have R0 : Hid (rw_ = 0 → m.hear ⟨rw_, rh, res, rps⟩ = (m, 0)) := Lib.hid fun e => if_pos e
  have R1 : Hid (rw_ ≠ 0 → rw_ ≠ wt.what → m.hear ⟨rw_, rh, res, rps⟩ = (m, 3)) := Lib.hid fun e e2 => by unfold Mi.hear; rw [hwt, if_neg e, if_pos e2]
  have R2 : wt.what = 1 → m.hear ⟨1, rh, res, rps⟩ = m.hearH rh := fun e => by unfold Mi.hear; rw [hwt, if_neg (by show ¬ (1 : Int) = 0; decide), if_neg (by show ¬ (1 : Int) ≠ wt.what; rw [e]; decide), if_pos rfl]
  have R3 : wt.what = 2 → m.hear ⟨2, rh, res, rps⟩ = m.hearE res := fun e => by unfold Mi.hear; rw [hwt, if_neg (by show ¬ (2 : Int) = 0; decide), if_neg (by show ¬ (2 : Int) ≠ wt.what; rw [e]; decide), if_neg (by show ¬ (2 : Int) = 1; decide), if_pos rfl]
  have R4 : Hid (wt.what = 3 → gk ≠ 0 → m.hear ⟨3, rh, res, rps⟩ = (m.forget, gk)) := Lib.hid fun e e2 => by
    unfold Mi.hear; rw [hwt, if_neg (by show ¬ (3 : Int) = 0; decide), if_neg (by show ¬ (3 : Int) ≠ wt.what; rw [e]; decide), if_neg (by show ¬ (3 : Int) = 1; decide), if_neg (by show ¬ (3 : Int) = 2; decide)]
    unfold Mi.hearP; rw [hro, ho, hnr, hns]; dsimp only; rw [hgk, if_pos e2]
  have R5 : Hid (wt.what = 3 → gk = 0 → m.hear ⟨3, rh, res, rps⟩ = m.settle) := Lib.hid fun e e2 => by
    unfold Mi.hear; rw [hwt, if_neg (by show ¬ (3 : Int) = 0; decide), if_neg (by show ¬ (3 : Int) ≠ wt.what; rw [e]; decide), if_neg (by show ¬ (3 : Int) = 1; decide), if_neg (by show ¬ (3 : Int) = 2; decide)]
    unfold Mi.hearP; rw [hro, ho, hnr, hns]; dsimp only; rw [hgk, if_neg (not_not_intro e2)]
  have R21 : Hid (wt.what = 1 → vk ≠ 0 → m.hear ⟨1, rh, res, rps⟩ = (m, vk)) := Lib.hid fun q e => by rw [R2 q]; unfold Mi.hearH; rw [hvk, if_pos e]
  have R22 : Hid (wt.what = 1 → vk = 0 → (rh.size < (o : Int) ∨ (rh.size = (o : Int) ∧ rh.root ≠ ro)) → m.hear ⟨1, rh, res, rps⟩ = (m, 3)) := Lib.hid fun q e e2 => by
    rw [R2 q]; unfold Mi.hearH; rw [hvk, ho, hro, if_neg (not_not_intro e), if_pos e2]
  have R23 : Hid (wt.what = 1 → vk = 0 → (o : Int) < rh.size → m.hear ⟨1, rh, res, rps⟩ = ({ m with next := rh }, 0)) := Lib.hid fun q e e2 => by
    rw [R2 q]; unfold Mi.hearH; rw [hvk, ho, hro, if_neg (not_not_intro e), if_neg (by omega), if_pos e2]
  have R24 : Hid (wt.what = 1 → vk = 0 → rh.size = (o : Int) → rh.root = ro → m.hear ⟨1, rh, res, rps⟩ = if m.head.time < rh.time then ({ m with head := rh }, 0) else (m, 0)) := Lib.hid fun q e e2 e3 => by
    rw [R2 q]; unfold Mi.hearH; rw [hvk, ho, hro, if_neg (not_not_intro e), if_neg (by rintro (h | ⟨_, h⟩); omega; exact h e3), if_neg (by omega), bet_time (e2.trans hms.symm)]
    by_cases h : m.head.time < rh.time
    · rw [if_pos h, if_pos (by simpa using h)]
    · rw [if_neg h, if_neg (by simpa using h)]
  have hw3 : wt.what = 3 → m.next.size ≠ 0 ∧ m.have_ = m.next.size := fun e => by
    rw [← hwt] at e
    have hn : m.next.size ≠ 0 := fun e2 => by unfold Mi.want at e; rw [if_pos e2] at e; cases e
    refine ⟨hn, ?_⟩
    unfold Mi.want at e
    rw [if_neg hn] at e
    split at e
    · assumption
    · cases e
  have hw1 : wt.what = 1 → m.next.size = 0 := fun e => by rw [← hwt] at e; omega
  have hw2 : wt.what = 2 → ns ≠ 0 ∧ (o : Int) + (m.waits.length : Int) ≠ ns ∧ wt = ⟨2, (o : Int) + (m.waits.length : Int), min ns ((o : Int) + (m.waits.length : Int) + 16)⟩ := fun e => by
    rw [← hwt] at e
    have hn : m.next.size ≠ 0 := fun e2 => by unfold Mi.want at e; rw [if_pos e2] at e; cases e
    have hf : m.have_ ≠ m.next.size := fun e2 => by unfold Mi.want at e; rw [if_neg hn, if_pos e2] at e; cases e
    refine ⟨by rw [← hns]; exact hn, by rw [← hns, ← ho]; exact hf, ?_⟩
    rw [← hwt]
    unfold Mi.want
    rw [if_neg hn, if_neg hf, hns]
    unfold Mi.have_
    rw [ho]
  have HW2 := Lib.hid hw2
  have HWT : Hid (∀ W, Ext w W → Calls Tryz.prog 17 #[.pointer (some ⟨mb, 0, none⟩)] W fun e w' => e = .returned wt.val ∧ Ext W w') := Lib.hid fun W e => by
    have := RMWant_any mb va vw m W (h.ext e)
    rw [hwt] at this
    exact this
  have HH3 : Hid (wt.what = 3 → ∀ W, Ext w W → Calls Tryz.prog 67 #[.pointer (some ⟨mb, 0, none⟩)] W (RPost W P mb m.settle)) := Lib.hid fun e W k => rsettle_any P mb va vw m W (h.ext k) hP (fun g hg => hPn g (by have := k.size; omega)) (hw3 e).1 (hw3 e).2
  have HF : Hid (∀ W, Ext w W → Calls Tryz.prog 66 #[.pointer (some ⟨mb, 0, none⟩)] W fun e w' => (∃ v, e = .returned v) ∧ MM 31 w' P mb m.forget ∧ Chg W w' P) := Lib.hid fun W e => rforget_any P mb va vw m W (h.ext e) hP
  have HRO : Hid (∀ W, Ext w W → Calls Tryz.prog 21 #[.pointer (some ⟨mb, 0, none⟩)] W fun e w' => e = .returned (.int .i64 ro) ∧ Ext W w') := Lib.hid fun W e => by
    have := RMRoot_any mb va vw m W (h.ext e)
    rw [hro] at this; exact this
  have HGC : Hid (∀ W, Ext w W → Calls Tryz.prog 68 #[.int .i64 ro, .int .i64 o, .int .i64 nr, .int .i64 ns, .slice A' n' c'] W fun e w' => e = .returned (.int .i64 gk) ∧ Ext W w') := Lib.hid fun W e => by
    have := RGrowCheck_any ro o nr ns A' n' c' rps W (hr'.ext e) hm'
    rw [hgk] at this; exact this
  have HV := Lib.hid fun W => RVerify_any rh m.key W
  rw [hvk, hkey] at HV
  have HEN : Hid (∀ W, Ext w W → Calls Tryz.prog 58 #[.slice A n c] W fun e w' => e = .returned (.int .i64 (entsErr res)) ∧ Ext W w') := Lib.hid fun W e => REntries_any A n c res W (hr.ext e) hm
  have HGH : Hid (m.next.size = 0 → (m.hearH rh).1.Good) := Lib.hid fun e => hgd.hearH e
  have HR2 := Lib.hid R2
  have HR3 := Lib.hid R3
  have HH := Lib.hid h
  have HP := Lib.hid hP
  have HPN := Lib.hid hPn
  have HRR := Lib.hid hr
  have HX := Lib.hid hx
  have HO := Lib.hid ho
  have HW1 := Lib.hid hw1
  have HGD := Lib.hid hgd
  obtain ⟨A1, c1, hva, hc1, -, -⟩ := own_rd h.own
  rw [ho] at hva
  have HVA := Lib.hid hva
  have HNS := Lib.hid hns
  have HNR := Lib.hid hnr
  have HKEY := Lib.hid hkey
  have HMS := Lib.hid hms
  obtain ⟨mt, hmt⟩ : ∃ x, m.head.time = x := ⟨_, rfl⟩
  rw [hmt] at R24
  have HMT := Lib.hid hmt
  have hww' : wt.what = 1 ∨ wt.what = 2 ∨ wt.what = 3 := by rw [← hwt]; omega
  have hr2 := hr.2.1
  have hr2' := hr'.2.1
  have hcs : c ≤ 9223372036854775807 := by unfold maxLen at hm; omega
  clear hww ho hwt hro hns hnr hgk hw3 hw1 hw2 h hP hPn hr hr' hva hvk hkey R2 R3 hgd hx hms hmt
  obtain ⟨h0, h1, h2, h3⟩ := rh
  obtain ⟨tw, tf, tt⟩ := wt
  simp only [Hd.val, Wt.val, replyV] at *
  have B0 := Bk.at_ w 87 #[.int .i64 rw_, .int .i64 h0, .int .i64 h1, .int .i64 h2, .int .i64 h3, .slice A n c, .slice A' n' c'] w.heap.size rfl
  have e0 : Ext w (w.alloc (.cells #[.int .i64 rw_, .int .i64 h0, .int .i64 h1, .int .i64 h2, .int .i64 h3, .slice A n c, .slice A' n' c'] 87)) := (Ext.refl _).alloc _
  go_enter Tryz.func38, Tryz.ntmps38
  go_upto_region 1 with (fail)
  generalize w.alloc (.cells #[.int .i64 rw_, .int .i64 h0, .int .i64 h1, .int .i64 h2, .int .i64 h3, .slice A n c, .slice A' n' c'] 87) = W0 at *
  obtain ⟨g0, hgw⟩ : ∃ g, w.heap.size = g := ⟨_, rfl⟩
  rw [hgw] at B0
  try rw [hgw]
  have HE0 := Lib.hid e0
  clear hgw
  clear e0
  go_wp2_with fail
  refine (HWT.out _ HE0.out).mono ?_
  rintro _ w1 ⟨rfl, hb1⟩
  have B1 := Bk.at_ w1 60 #[.int .i64 tw, .int .i64 tf, .int .i64 tt] w1.heap.size rfl
  have e1 : Ext W0 (w1.alloc (.cells #[.int .i64 tw, .int .i64 tf, .int .i64 tt] 60)) := hb1.alloc _
  go_upto_region 2 with (fail)
  generalize w1.alloc (.cells #[.int .i64 tw, .int .i64 tf, .int .i64 tt] 60) = W1 at *
  generalize w1.heap.size = g1 at *
  have HE2 := Lib.hid (HE0.out.trans e1)
  have B2 := B0.ext e1
  have HB2 := Lib.hid B2
  have HB1 := Lib.hid B1
  have HH1 := Lib.hid (HH.out.ext HE2.out)
  have y0 : W1.cell? ⟨g0, 0, none⟩ = some (.int .i64 rw_) := B2.cell 0
  have z0 : W1.cell? ⟨g1, 0, none⟩ = some (.int .i64 tw) := B1.cell 0
  clear hb1 e1 HWT HE0 B0 B1
  by_cases q0 : rw_ = 0
  · have HR := Lib.hid (R0.out q0)
    subst q0
    clear R1 R4 R5 R21 R22 R23 R24 HR2 HR3 HH3 HF HRO HGC HV HEN HGH B2
    go_wp2_with fail
    go_ret
    rw [HR.out]
    exact RPost.stay HH.out HP.out HE2.out
  have qb0 : (rw_ == 0) = false := beq_eq_false_iff_ne.2 q0
  by_cases q1 : rw_ = tw
  case neg =>
    have HR := Lib.hid (R1.out q0 q1)
    have qb1 : (rw_ == tw) = false := beq_eq_false_iff_ne.2 q1
    clear R0 R4 R5 R21 R22 R23 R24 HR2 HR3 HH3 HF HRO HGC HV HEN HGH B2 q0 q1
    go_wp2_with fail
    go_ret
    rw [HR.out]
    exact RPost.stay HH.out HP.out HE2.out
  subst q1
  clear R0 R1
  rcases hww' with q2 | q2 | q2
  · obtain rfl : rw_ = 1 := q2
    have HNZ := Lib.hid (HW1.out rfl)
    have HG0 := Lib.hid (HGH.out HNZ.out)
    have HRH := Lib.hid (HR2.out rfl)
    have y1 : W1.cell? ⟨g0, 1, none⟩ = some (.int .i64 h0) := B2.cell 1
    have y2 : W1.cell? ⟨g0, 2, none⟩ = some (.int .i64 h1) := B2.cell 2
    have y3 : W1.cell? ⟨g0, 3, none⟩ = some (.int .i64 h2) := B2.cell 3
    have y4 : W1.cell? ⟨g0, 4, none⟩ = some (.int .i64 h3) := B2.cell 4
    have S1 := Lib.hid (R21.out rfl)
    have S2 := Lib.hid (R22.out rfl)
    have S3 := Lib.hid (R23.out rfl)
    have S4 := Lib.hid (R24.out rfl)
    clear R4 R5 R21 R22 R23 R24 HR2 HR3 HH3 HF HGC HEN HGH B2 q0 qb0 hwnz HW1
    have B6 := Bk.at_ W1 29 #[.int .i64 h0, .int .i64 h1, .int .i64 h2, .int .i64 h3] W1.heap.size rfl
    have e6 : Ext W1 (W1.alloc (.cells #[.int .i64 h0, .int .i64 h1, .int .i64 h2, .int .i64 h3] 29)) := (Ext.refl _).alloc _
    go_upto_region 8 with (fail)
    generalize W1.alloc (.cells #[.int .i64 h0, .int .i64 h1, .int .i64 h2, .int .i64 h3] 29) = W6 at *
    generalize W1.heap.size = g6 at *
    have HE6 := Lib.hid (HE2.out.trans e6)
    have HH6 := Lib.hid (HH1.out.ext e6)
    have HB6 := Lib.hid B6
    have x0 : ∀ x : WE W6, x.W.cell? ⟨g6, 0, none⟩ = some (.int .i64 h0) := fun x => (HB6.out.ext x.h).cell 0
    have x1 : ∀ x : WE W6, x.W.cell? ⟨g6, 1, none⟩ = some (.int .i64 h1) := fun x => (HB6.out.ext x.h).cell 1
    have x2 : ∀ x : WE W6, x.W.cell? ⟨g6, 2, none⟩ = some (.int .i64 h2) := fun x => (HB6.out.ext x.h).cell 2
    have x3 : ∀ x : WE W6, x.W.cell? ⟨g6, 3, none⟩ = some (.int .i64 h3) := fun x => (HB6.out.ext x.h).cell 3
    have xk : ∀ x : WE W6, x.W.cell? ⟨mb, 0, none⟩ = some (.int .i64 key) := fun x => by rw [← HKEY.out]; exact (HH6.out.ext x.h).bk.cell 0
    have xo : ∀ x : WE W6, x.W.cell? ⟨mb, 1, none⟩ = some (.slice A1 o c1) := fun x => by rw [← HVA.out]; exact (HH6.out.ext x.h).bk.cell 1
    have xs : ∀ x : WE W6, x.W.cell? ⟨mb, 2, none⟩ = some (.int .i64 o) := fun x => by rw [← HMS.out]; exact (HH6.out.ext x.h).bk.cell 2
    have xt : ∀ x : WE W6, x.W.cell? ⟨mb, 4, none⟩ = some (.int .i64 mt) := fun x => by rw [← HMT.out]; exact (HH6.out.ext x.h).bk.cell 4
    clear y0 y1 y2 y3 y4 z0 e6 B6 HB2 HB1 HH1 HE2
    (refine wp_region_ext (w0 := W6) (by kernel_rfl) (by kernel_rfl) (by (repeat (with_reducible first | exact Ext.refl _ | assumption | refine Ext.drew ?_ | refine Ext.drewN ?_ _ | refine Ext.alloc ?_ _ | refine Ext.trans ?_ (by with_reducible assumption)))) ?_; (repeat (go_big_quiet_step (((go_at_call 65; exact quietE (HV.out _)))))); refine wpQuiet_nil ?_)
    intro w2 hb2
    by_cases h0' : vk = 0
    case neg =>
      have hvb : (vk == 0) = false := beq_eq_false_iff_ne.2 h0'
      have HR := Lib.hid (S1.out h0')
      have HE7 := Lib.hid (HE6.out.trans hb2)
      clear S1 S2 S3 S4 h0' x0 x1 x2 x3 xk xo xs xt
      go_wp2_with fail
      go_ret
      rw [HR.out]
      exact RPost.stay HH.out HP.out HE7.out
    subst h0'
    clear S1
    rcases Int.lt_trichotomy h0 (o : Int) with k1 | k1 | k1
    · have HR := Lib.hid (S2.out rfl (.inl k1))
      clear S2 S3 S4
      go_wp2_with fail
      (refine wp_region_ext (w0 := W6) (by kernel_rfl) (by kernel_rfl) (by (repeat (with_reducible first | exact Ext.refl _ | assumption | refine Ext.drew ?_ | refine Ext.drewN ?_ _ | refine Ext.alloc ?_ _ | refine Ext.trans ?_ (by with_reducible assumption)))) ?_; (repeat (go_big_quiet_step ((fail)))); refine wpQuiet_nil ?_)
      intro w3 hb3
      have HE7 := Lib.hid (HE6.out.trans hb3)
      clear x0 x1 x2 x3 xk xo xs xt
      go_wp2_with fail
      go_ret
      rw [HR.out]
      exact RPost.stay HH.out HP.out HE7.out
    · have hn1 : ¬ (h0 < (o : Int)) := by omega
      by_cases k2 : h1 = ro
      case neg =>
        have HR := Lib.hid (S2.out rfl (.inr ⟨k1, k2⟩))
        have hb : (h1 == ro) = false := beq_eq_false_iff_ne.2 k2
        clear S2 S3 S4 k2
        subst k1
        go_wp2_with fail
        (refine wp_region_ext (w0 := W6) (by kernel_rfl) (by kernel_rfl) (by (repeat (with_reducible first | exact Ext.refl _ | assumption | refine Ext.drew ?_ | refine Ext.drewN ?_ _ | refine Ext.alloc ?_ _ | refine Ext.trans ?_ (by with_reducible assumption)))) ?_; (repeat (go_big_quiet_step (((go_at_call 21; exact quietE (HRO.out _ (HE6.out.trans (WE.h _)))))))); refine wpQuiet_nil ?_)
        intro w3 hb3
        have HE7 := Lib.hid (HE6.out.trans hb3)
        clear x0 x1 x2 x3 xk xo xs xt
        go_wp2_with fail
        go_ret
        rw [HR.out]
        exact RPost.stay HH.out HP.out HE7.out
      subst k2
      have HR := Lib.hid (S4.out rfl k1 rfl)
      clear S2 S3 S4
      subst k1
      go_wp2_with fail
      (refine wp_region_ext (w0 := W6) (by kernel_rfl) (by kernel_rfl) (by (repeat (with_reducible first | exact Ext.refl _ | assumption | refine Ext.drew ?_ | refine Ext.drewN ?_ _ | refine Ext.alloc ?_ _ | refine Ext.trans ?_ (by with_reducible assumption)))) ?_; (repeat (go_big_quiet_step (((go_at_call 21; exact quietE (HRO.out _ (HE6.out.trans (WE.h _)))))))); refine wpQuiet_nil ?_)
      intro w3 hb3
      go_wp2_with fail
      (refine wp_region_ext (w0 := W6) (by kernel_rfl) (by kernel_rfl) (by (repeat (with_reducible first | exact Ext.refl _ | assumption | refine Ext.drew ?_ | refine Ext.drewN ?_ _ | refine Ext.alloc ?_ _ | refine Ext.trans ?_ (by with_reducible assumption)))) ?_; (repeat (go_big_quiet_step ((fail)))); refine wpQuiet_nil ?_)
      intro w4 hb4
      by_cases k3 : mt < h2
      · have HR' := Lib.hid (HR.out.trans (if_pos k3))
        go_wp2_with fail
        (refine wp_region_ext (w0 := W6) (by kernel_rfl) (by kernel_rfl) (by (repeat (with_reducible first | exact Ext.refl _ | assumption | refine Ext.drew ?_ | refine Ext.drewN ?_ _ | refine Ext.alloc ?_ _ | refine Ext.trans ?_ (by with_reducible assumption)))) ?_; (repeat (go_big_quiet_step ((fail)))); refine wpQuiet_nil ?_)
        intro w5 hb5
        have B5 := HB6.out.ext hb5
        have H5 := HH6.out.ext hb5
        have HH5 := Lib.hid H5
        have HE5 := Lib.hid (HE6.out.trans hb5)
        have u0 : w5.cell? ⟨g6, 0, none⟩ = some (.int .i64 o) := B5.cell 0
        have u1 : w5.cell? ⟨g6, 1, none⟩ = some (.int .i64 h1) := B5.cell 1
        have u2 : w5.cell? ⟨g6, 2, none⟩ = some (.int .i64 h2) := B5.cell 2
        have u3 : w5.cell? ⟨g6, 3, none⟩ = some (.int .i64 h3) := B5.cell 3
        obtain ⟨m0, hm0⟩ : ∃ v, m.head.size = v := ⟨_, rfl⟩
        obtain ⟨m1, hm1⟩ : ∃ v, m.head.root = v := ⟨_, rfl⟩
        obtain ⟨m2, hm2⟩ : ∃ v, m.head.time = v := ⟨_, rfl⟩
        obtain ⟨m3, hm3⟩ : ∃ v, m.head.sign = v := ⟨_, rfl⟩
        have v2 : w5.cell? ⟨mb, 2, none⟩ = some (.int .i64 m0) := by rw [← hm0]; exact H5.bk.cell 2
        have v3 : w5.cell? ⟨mb, 3, none⟩ = some (.int .i64 m1) := by rw [← hm1]; exact H5.bk.cell 3
        have v4 : w5.cell? ⟨mb, 4, none⟩ = some (.int .i64 m2) := by rw [← hm2]; exact H5.bk.cell 4
        have v5 : w5.cell? ⟨mb, 5, none⟩ = some (.int .i64 m3) := by rw [← hm3]; exact H5.bk.cell 5
        have q2' := H5.bk.frozen 2
        have q3' := H5.bk.frozen 3
        have q4' := H5.bk.frozen 4
        have q5' := H5.bk.frozen 5
        clear B5 H5 hm0 hm1 hm2 hm3 x0 x1 x2 x3 xk xo xs xt hb3 hb4 hb5 hb2
        go_wp2_with fail
        go_ret
        rw [HR'.out]
        have hg := HG0.out
        rw [← HRH.out, HR'.out] at hg
        obtain ⟨t1, t2⟩ := HH5.out.putR (m' := { m with head := ⟨(o : Int), h1, h2, h3⟩ }) (va' := va) (vw' := vw) HP.out
          (gb_trans (gb_trans (gb_trans (gb_set w5 mb 2 (.int .i64 o)) (gb_set _ mb 3 (.int .i64 h1))) (gb_set _ mb 4 (.int .i64 h2))) (gb_set _ mb 5 (.int .i64 h3)))
          ((((HH5.out.bk.set_ 2 _).set_ 3 _).set_ 4 _).set_ 5 _) HH5.out.own HH5.out.waits HH5.out.apart hg (fun g hg => HP.out g (.inr (.inl hg))) (fun g hg => HP.out g (.inr (.inr hg)))
        exact ⟨rfl, t1, (HE5.out.chg P).trans t2 fun _ _ h => h⟩
      · have HR' := Lib.hid (HR.out.trans (if_neg k3))
        go_wp2_with fail
        (refine wp_region_ext (w0 := W6) (by kernel_rfl) (by kernel_rfl) (by (repeat (with_reducible first | exact Ext.refl _ | assumption | refine Ext.drew ?_ | refine Ext.drewN ?_ _ | refine Ext.alloc ?_ _ | refine Ext.trans ?_ (by with_reducible assumption)))) ?_; (repeat (go_big_quiet_step ((fail)))); refine wpQuiet_nil ?_)
        intro w5 hb5
        have HE5 := Lib.hid (HE6.out.trans hb5)
        clear x0 x1 x2 x3 xk xo xs xt
        go_wp2_with fail
        go_ret
        rw [HR'.out]
        exact RPost.stay HH.out HP.out HE5.out
    · have hn1 : (h0 < (o : Int)) = False := eq_false (by omega)
      have hb : (h0 == (o : Int)) = false := beq_eq_false_iff_ne.2 (by omega)
      have HR := Lib.hid (S3.out rfl k1)
      clear S2 S3 S4
      go_wp2_with fail
      (refine wp_region_ext (w0 := W6) (by kernel_rfl) (by kernel_rfl) (by (repeat (with_reducible first | exact Ext.refl _ | assumption | refine Ext.drew ?_ | refine Ext.drewN ?_ _ | refine Ext.alloc ?_ _ | refine Ext.trans ?_ (by with_reducible assumption)))) ?_; (repeat (go_big_quiet_step ((fail)))); refine wpQuiet_nil ?_)
      intro w3 hb3
      go_wp2_with fail
      (refine wp_region_ext (w0 := W6) (by kernel_rfl) (by kernel_rfl) (by (repeat (with_reducible first | exact Ext.refl _ | assumption | refine Ext.drew ?_ | refine Ext.drewN ?_ _ | refine Ext.alloc ?_ _ | refine Ext.trans ?_ (by with_reducible assumption)))) ?_; (repeat (go_big_quiet_step ((fail)))); refine wpQuiet_nil ?_)
      intro w5 hb5
      have B5 := HB6.out.ext hb5
      have H5 := HH6.out.ext hb5
      have HH5 := Lib.hid H5
      have HE5 := Lib.hid (HE6.out.trans hb5)
      have u0 : w5.cell? ⟨g6, 0, none⟩ = some (.int .i64 h0) := B5.cell 0
      have u1 : w5.cell? ⟨g6, 1, none⟩ = some (.int .i64 h1) := B5.cell 1
      have u2 : w5.cell? ⟨g6, 2, none⟩ = some (.int .i64 h2) := B5.cell 2
      have u3 : w5.cell? ⟨g6, 3, none⟩ = some (.int .i64 h3) := B5.cell 3
      obtain ⟨m0, hm0⟩ : ∃ v, m.next.size = v := ⟨_, rfl⟩
      obtain ⟨m1, hm1⟩ : ∃ v, m.next.root = v := ⟨_, rfl⟩
      obtain ⟨m2, hm2⟩ : ∃ v, m.next.time = v := ⟨_, rfl⟩
      obtain ⟨m3, hm3⟩ : ∃ v, m.next.sign = v := ⟨_, rfl⟩
      have v6 : w5.cell? ⟨mb, 6, none⟩ = some (.int .i64 m0) := by rw [← hm0]; exact H5.bk.cell 6
      have v7 : w5.cell? ⟨mb, 7, none⟩ = some (.int .i64 m1) := by rw [← hm1]; exact H5.bk.cell 7
      have v8 : w5.cell? ⟨mb, 8, none⟩ = some (.int .i64 m2) := by rw [← hm2]; exact H5.bk.cell 8
      have v9 : w5.cell? ⟨mb, 9, none⟩ = some (.int .i64 m3) := by rw [← hm3]; exact H5.bk.cell 9
      have q6' := H5.bk.frozen 6
      have q7' := H5.bk.frozen 7
      have q8' := H5.bk.frozen 8
      have q9' := H5.bk.frozen 9
      clear B5 H5 hm0 hm1 hm2 hm3 x0 x1 x2 x3 xk xo xs xt hb3 hb5 hb2
      go_wp2_with fail
      go_ret
      rw [HR.out]
      have hg := HG0.out
      rw [← HRH.out, HR.out] at hg
      obtain ⟨t1, t2⟩ := HH5.out.putR (m' := { m with next := ⟨h0, h1, h2, h3⟩ }) (va' := va) (vw' := vw) HP.out
        (gb_trans (gb_trans (gb_trans (gb_set w5 mb 6 (.int .i64 h0)) (gb_set _ mb 7 (.int .i64 h1))) (gb_set _ mb 8 (.int .i64 h2))) (gb_set _ mb 9 (.int .i64 h3)))
        ((((HH5.out.bk.set_ 6 _).set_ 7 _).set_ 8 _).set_ 9 _) HH5.out.own HH5.out.waits HH5.out.apart hg (fun g hg => HP.out g (.inr (.inl hg))) (fun g hg => HP.out g (.inr (.inr hg)))
      exact ⟨rfl, t1, (HE5.out.chg P).trans t2 fun _ _ h => h⟩
  · obtain rfl : rw_ = 2 := q2
    have hwx := HW2.out rfl
    obtain ⟨hnz, hnf, hwt⟩ := hwx
    obtain ⟨k, hk⟩ : ∃ x, m.waits.length = x := ⟨_, rfl⟩
    rw [hk] at hnf hwt
    injection hwt with _ hfr hto
    subst hfr hto
    have hle := HGD.out.have_le
    have hnx := HGD.out.nsz
    have hrm := (HGD.out.room (by rw [HNS.out]; exact hnz)).1
    unfold Mi.have_ at hrm
    rw [HO.out, hk] at hle hrm
    rw [HNS.out] at hnx hrm
    have HRH := Lib.hid (HR3.out rfl)
    obtain ⟨hv, hhv⟩ : ∃ x, (o : Int) + (k : Int) = x := ⟨_, rfl⟩
    rw [hhv] at hnf hrm
    have HHV := Lib.hid hhv
    obtain ⟨to_, hto⟩ : ∃ x, min ns (hv + 16) = x := ⟨_, rfl⟩
    have hto2 : to_ ≤ ns ∧ to_ ≤ hv + 16 ∧ hv ≤ to_ := by omega
    have hv0 : 0 ≤ hv ∧ hv ≤ 200 := by omega
    have ww : m.want.to_ - m.want.fr = to_ - hv := by
      have h1 : m.want = ⟨2, hv, to_⟩ := by
        have hn : m.next.size ≠ 0 := by rw [HNS.out]; exact hnz
        have hf : m.have_ ≠ m.next.size := by unfold Mi.have_; rw [HO.out, hk, HNS.out, hhv]; exact hnf
        unfold Mi.want
        rw [if_neg hn, if_neg hf, HNS.out]
        unfold Mi.have_
        rw [HO.out, hk, hhv, hto]
      rw [h1]
    have T1 : Hid (((n : Int) < 1 ∨ to_ - hv < n) → m.hearE res = (m.forget, 3)) := Lib.hid fun e => by
      unfold Mi.hearE; rw [ww, HX.out]; exact if_pos e
    have T2 : Hid (¬ ((n : Int) < 1 ∨ to_ - hv < n) → firstErr res ≠ 0 → m.hearE res = (m.forget, firstErr res)) := Lib.hid fun e e2 => by
      unfold Mi.hearE; rw [ww, HX.out, if_neg e, if_pos e2]
    have T3 : Hid (¬ ((n : Int) < 1 ∨ to_ - hv < n) → firstErr res = 0 → (o = 0 ∧ ((k + n : Nat) : Int) = ns) → m.hearE res = ({ m with waits := m.waits ++ res } : Mi).settle) := Lib.hid fun e e2 e3 => by
      unfold Mi.hearE; rw [ww, HX.out, if_neg e, if_neg (not_not_intro e2), HO.out, List.length_append, hk, HX.out, HNS.out, if_pos e3]
    have T4 : Hid (¬ ((n : Int) < 1 ∨ to_ - hv < n) → firstErr res = 0 → ¬ (o = 0 ∧ ((k + n : Nat) : Int) = ns) → m.hearE res = ({ m with waits := m.waits ++ res }, 0)) := Lib.hid fun e e2 e3 => by
      unfold Mi.hearE; rw [ww, HX.out, if_neg e, if_neg (not_not_intro e2), HO.out, List.length_append, hk, HX.out, HNS.out, if_neg e3]
    have HGA : Hid ((∀ e ∈ res, e.ok) → hv + (n : Int) ≤ ns → ({ m with waits := m.waits ++ res } : Mi).Good) := Lib.hid fun e e2 => HGD.out.add (by rw [HNS.out]; exact hnz) e (by
      unfold Mi.have_; rw [HO.out, hk, HNS.out, HX.out, hhv]; exact e2)
    have HK := Lib.hid hk
    have HNZ := Lib.hid hnz
    have z1 : W1.cell? ⟨g1, 1, none⟩ = some (.int .i64 hv) := by rw [← hhv]; exact HB1.out.cell 1
    have z2 : W1.cell? ⟨g1, 2, none⟩ = some (.int .i64 to_) := by rw [← hto, ← hhv]; exact HB1.out.cell 2
    have y5 : W1.cell? ⟨g0, 5, none⟩ = some (.slice A n c) := B2.cell 5
    have hsub : IntKind.i64.wrap (to_ - hv) = to_ - hv := IntWalk.i64_in _ (by omega)
    clear R4 R5 R21 R22 R23 R24 HR2 HR3 HH3 HV HRO HGC HGH B2 q0 qb0 hwnz hhv hto ww hk HW1 HW2 hnz
    by_cases c1' : n = 0
    · have HR := Lib.hid (T1.out (.inl (by omega)))
      subst c1'
      clear T1 T2 T3 T4 HGA HEN
      go_wp2_with fail
      refine (HF.out _ HE2.out).mono ?_
      rintro _ w4 ⟨⟨v4, rfl⟩, hp2, hp3⟩
      have HP2 := Lib.hid hp2
      have HP3 := Lib.hid hp3
      clear hp2 hp3
      go_wp2_with fail
      go_ret
      rw [HRH.out, HR.out]
      exact ⟨rfl, HP2.out, (HE2.out.chg P).trans HP3.out fun _ _ h => h⟩
    have hnb : ((n : Int) == 0) = false := beq_eq_false_iff_ne.2 (by omega)
    by_cases c2' : to_ - hv < (n : Int)
    · have HR := Lib.hid (T1.out (.inr c2'))
      clear T1 T2 T3 T4 HGA HEN
      go_wp2_with fail
      refine (HF.out _ HE2.out).mono ?_
      rintro _ w4 ⟨⟨v4, rfl⟩, hp2, hp3⟩
      have HP2 := Lib.hid hp2
      have HP3 := Lib.hid hp3
      clear hp2 hp3
      go_wp2_with fail
      go_ret
      rw [HRH.out, HR.out]
      exact ⟨rfl, HP2.out, (HE2.out.chg P).trans HP3.out fun _ _ h => h⟩
    have hno : ¬ ((n : Int) < 1 ∨ to_ - hv < n) := by omega
    have hn16 : n ≤ 16 := by omega
    have hfe : entsErr res = firstErr res := by unfold entsErr; rw [if_neg (by rw [HX.out]; omega)]
    have T2' := Lib.hid (T2.out hno)
    have T3' := Lib.hid (T3.out hno)
    have T4' := Lib.hid (T4.out hno)
    rw [hfe] at HEN
    have HFM : Hid (firstErr res = 0 → ∀ e ∈ res, e.ok) := Lib.hid firstErr_mem
    obtain ⟨fe, hfe2⟩ : ∃ v, firstErr res = v := ⟨_, rfl⟩
    rw [hfe2] at HEN T2' T3' T4' HFM
    clear T1 T2 T3 T4 hno hfe hfe2
    go_wp2_with fail
    refine (HEN.out _ HE2.out).mono ?_
    rintro _ w3 ⟨rfl, hb3⟩
    have HE3 := Lib.hid (HE2.out.trans hb3)
    have HH3 := Lib.hid (HH1.out.ext hb3)
    have HB3 := Lib.hid (HB2.out.ext hb3)
    clear HEN y0 z0 z1 z2 y5 HB1 HB2 HE2 hb3
    by_cases c3' : fe = 0
    case neg =>
      have HR := Lib.hid (T2'.out c3')
      have hfb : (fe == 0) = false := beq_eq_false_iff_ne.2 c3'
      clear T2' T3' T4' HGA c3' HFM
      go_wp2_with fail
      refine (HF.out _ HE3.out).mono ?_
      rintro _ w4 ⟨⟨v4, rfl⟩, hp2, hp3⟩
      have HP2 := Lib.hid hp2
      have HP3 := Lib.hid hp3
      clear hp2 hp3
      go_wp2_with fail
      go_ret
      rw [HRH.out, HR.out]
      exact ⟨rfl, HP2.out, (HE3.out.chg P).trans HP3.out fun _ _ h => h⟩
    subst c3'
    have HGM := Lib.hid (HGA.out (HFM.out rfl) (by omega))
    obtain ⟨i0, hi0, hz0, hz1, hz2⟩ := info_parts info_entM
    have HR3r := Lib.hid (HRR.out.ext HE3.out)
    obtain ⟨ad, hAd, hbA, hcA⟩ := HR3r.out.2.2 (by omega)
    subst hAd
    have HCA := Lib.hid hcA
    have HLL := Lib.hid (HRR.out.1)
    have HWA : Hid (w3.ownsRow 0 67 2 vw k (m.waits.flatMap Ent.cells)) := by
      have := HH3.out.waits
      rw [HK.out] at this; exact this
    have HNE := Lib.hid (own_type HWA.out HH3.out.bk (by decide))
    have yw : w3.cell? ⟨mb, 10, none⟩ = some vw := HH3.out.bk.cell 10
    have y5 : w3.cell? ⟨g0, 5, none⟩ = some (.slice (some ad) n c) := HB3.out.cell 5
    clear hcA HF T2' HGA HFM
    go_upto_region 26 with (fail)
    go_cut [] (fun wc => ∃ g cap, Hid (MiAt 31 wc mb va (.slice (some ⟨g, 0, none⟩) (k + n) cap) { m with waits := m.waits ++ res }) ∧ Hid (∀ x, MFoot mb va (.slice (some ⟨g, 0, none⟩) (k + n) cap) x → P x) ∧ Hid (Chg w wc P))
    case first =>
      as_aux_lemma =>
      go_region_law (refine step_apps (by rfl) _ _ _ (by rfl) 0 67 i0 _ 2 24 Tryz.underlying27 hi0 hz0 hz1 hz2 rfl (by omega) vw k _ (by rfl) (own_ext HWA.out (by (repeat (with_reducible first | exact Ext.refl _ | assumption | refine Ext.drew ?_ | refine Ext.drewN ?_ _ | refine Ext.alloc ?_ _ | refine Ext.trans ?_ (by with_reducible assumption))))) ad n c _ (by rfl) HLL.out HCA.out (ones_ents _) (by omega) (by omega) (by omega) (Nat.zero_le _) ?_; intro g cap w5 own5 hg5 hH5 hl5; have B5 := ((HH3.out.ext (by (repeat (with_reducible first | exact Ext.refl _ | assumption | refine Ext.drew ?_ | refine Ext.drewN ?_ _ | refine Ext.alloc ?_ _ | refine Ext.trans ?_ (by with_reducible assumption))))).bk).kept hg5 HNE.out; have v10 : w5.cell? ⟨mb, 10, none⟩ = some vw := B5.cell 10; have q10 := B5.frozen 10)
      all_goals
        have H3' := HH3.out.ext (show Ext w3 w3.drew from Ext.drew (Ext.refl _))
        have hset := gb_set w5 mb 10 (.slice (some ⟨g, 0, none⟩) (k + n) cap)
        have M6 : ({ m with waits := m.waits ++ res } : Mi).Good → MiAt 31 (w5.setCell ⟨mb, 10, none⟩ (.slice (some ⟨g, 0, none⟩) (k + n) cap)) mb va (.slice (some ⟨g, 0, none⟩) (k + n) cap) { m with waits := m.waits ++ res } := fun hgood => by
          refine ⟨B5.set_ 10 _, ?_, ?_, ?_, hgood⟩
          · refine (H3'.own.kept hg5 ?_).kept hset (.inr (own_type H3'.own H3'.bk (by decide)))
            cases hb : va.ownBlock with
            | none => exact .inl rfl
            | some g' => exact .inr fun e => H3'.apart g' hb e.symm
          · have := own5.kept hset (.inr (own_type own5 B5 (by decide)))
            rw [← List.flatMap_append] at this
            show World.ownsRow _ _ _ _ _ (m.waits ++ res).length _
            rw [List.length_append, HK.out, HX.out]
            exact this
          · intro g' hg' e
            have e' : g = g' := by simpa [Value.ownBlock] using e
            subst e'
            rcases hH5 with h | h
            · exact H3'.apart g hg' h
            · have := (H3'.own.lt g hg').2; omega
        have F6 : ∀ x, MFoot mb va (.slice (some ⟨g, 0, none⟩) (k + n) cap) x → P x := fun x hx => by
          rcases hx with rfl | hx | hx
          · exact HP.out _ (.inl rfl)
          · exact HP.out _ (.inr (.inl hx))
          · have e' : g = x := by simpa [Value.ownBlock] using hx
            subst e'
            rcases hH5 with h | h
            · exact HP.out _ (.inr (.inr h))
            · exact HPN.out _ (by have h1 := HE3.out.size; have h2 : w3.drew.heap.size = w3.heap.size := rfl; omega)
        have C6 : Chg w (w5.setCell ⟨mb, 10, none⟩ (.slice (some ⟨g, 0, none⟩) (k + n) cap)) P :=
          (((HE3.out.trans (Ext.drew (Ext.refl _))).chg P).trans ((gb_chg hg5).mono fun x _ hx => HP.out x (.inr (.inr hx))) fun _ _ h => h).trans ((gb_chg hset).mono fun x _ hx => by injection hx with hx; subst hx; exact HP.out _ (.inl rfl)) fun _ _ h => h
        go_wp2_with fail
        go_meet
        exact ⟨g, cap, Lib.hid (M6 HGM.out), Lib.hid F6, Lib.hid C6⟩
    case rest =>
    as_aux_lemma =>
    obtain ⟨g, cap, HM6, HF6, HC6⟩ := hcut
    obtain ⟨w6, rfl⟩ : ∃ W, W = wc := ⟨_, rfl⟩
    clear HCA HLL HWA HNE yw y5 HR3r HB3 HH3 HE3
    have y1 : ∀ x : WE w6, x.W.cell? ⟨mb, 1, none⟩ = some (.slice A1 o c1) := fun x => by rw [← HVA.out]; exact (HM6.out.ext x.h).bk.cell 1
    have y10 : ∀ x : WE w6, x.W.cell? ⟨mb, 10, none⟩ = some (.slice (some ⟨g, 0, none⟩) (k + n) cap) := fun x => (HM6.out.ext x.h).bk.cell 10
    have y6 : ∀ x : WE w6, x.W.cell? ⟨mb, 6, none⟩ = some (.int .i64 ns) := fun x => by rw [← HNS.out]; exact (HM6.out.ext x.h).bk.cell 6
    by_cases h0 : o = 0 ∧ ((k + n : Nat) : Int) = ns
    · have HR := Lib.hid (T3'.out (by first | rfl | trivial) h0)
      have HSE : Hid (∀ W, Ext w6 W → Calls Tryz.prog 67 #[.pointer (some ⟨mb, 0, none⟩)] W (RPost W P mb ({ m with waits := m.waits ++ res } : Mi).settle)) := Lib.hid fun W e =>
        rsettle_any P mb _ _ _ W (HM6.out.ext e) HF6.out (fun g hg => HPN.out g (by have := HC6.out.size; have := e.size; omega)) (by show m.next.size ≠ 0; rw [HNS.out]; exact HNZ.out) (by
          show (m.own.length : Int) + ((m.waits ++ res).length : Int) = m.next.size
          rw [List.length_append, HO.out, HK.out, HX.out, HNS.out]
          have := h0.1
          have := h0.2
          omega)
      obtain ⟨h01, h02⟩ := h0
      subst h01
      have hb2 : (((k + n : Nat) : Int) == ns) = true := beq_iff_eq.2 h02
      have hb3 : ((k : Int) + (n : Int) == ns) = true := beq_iff_eq.2 (by omega)
      clear T3' T4' HGM HNZ
      go_wp2_with fail
      (refine wp_region_ext (w0 := w6) (by kernel_rfl) (by kernel_rfl) (by (repeat (with_reducible first | exact Ext.refl _ | assumption | refine Ext.drew ?_ | refine Ext.drewN ?_ _ | refine Ext.alloc ?_ _ | refine Ext.trans ?_ (by with_reducible assumption)))) ?_; (repeat (go_big_quiet_step ((fail)))); refine wpQuiet_nil ?_)
      intro w7 hb7
      clear y1 y10 y6
      go_wp2_with fail
      refine (HSE.out _ hb7).mono ?_
      rintro _ w8 ⟨rfl, hp2, hp3⟩
      have HP2 := Lib.hid hp2
      have HP3 := Lib.hid hp3
      clear hp2 hp3
      go_wp2_with fail
      go_ret
      rw [HRH.out, HR.out]
      exact ⟨rfl, HP2.out, HC6.out.trans ((hb7.chg P).trans HP3.out fun _ _ h => h) fun _ _ h => h⟩
    · have HR := Lib.hid (T4'.out (by first | rfl | trivial) h0)
      by_cases h01 : o = 0
      · subst h01
        have hb2 : (((k + n : Nat) : Int) == ns) = false := beq_eq_false_iff_ne.2 fun e => h0 ⟨rfl, e⟩
        have hb3 : ((k : Int) + (n : Int) == ns) = false := beq_eq_false_iff_ne.2 fun e => h0 ⟨rfl, by omega⟩
        clear T3' T4' HNZ h0
        go_wp2_with fail
        (refine wp_region_ext (w0 := w6) (by kernel_rfl) (by kernel_rfl) (by (repeat (with_reducible first | exact Ext.refl _ | assumption | refine Ext.drew ?_ | refine Ext.drewN ?_ _ | refine Ext.alloc ?_ _ | refine Ext.trans ?_ (by with_reducible assumption)))) ?_; (repeat (go_big_quiet_step ((fail)))); refine wpQuiet_nil ?_)
        intro w7 hb7
        clear y1 y10 y6
        go_wp2_with fail
        go_ret
        rw [HRH.out, HR.out]
        exact ⟨rfl, (show MM _ w6 P mb _ from ⟨_, _, HM6.out, HF6.out⟩).ext hb7, HC6.out.trans (hb7.chg P) fun _ _ h => h⟩
      · have hb2 : ((o : Int) == 0) = false := beq_eq_false_iff_ne.2 (by omega)
        clear T3' T4' HNZ h0
        go_wp2_with fail
        (refine wp_region_ext (w0 := w6) (by kernel_rfl) (by kernel_rfl) (by (repeat (with_reducible first | exact Ext.refl _ | assumption | refine Ext.drew ?_ | refine Ext.drewN ?_ _ | refine Ext.alloc ?_ _ | refine Ext.trans ?_ (by with_reducible assumption)))) ?_; (repeat (go_big_quiet_step ((fail)))); refine wpQuiet_nil ?_)
        intro w7 hb7
        clear y1 y10 y6
        go_wp2_with fail
        go_ret
        rw [HRH.out, HR.out]
        exact ⟨rfl, (show MM _ w6 P mb _ from ⟨_, _, HM6.out, HF6.out⟩).ext hb7, HC6.out.trans (hb7.chg P) fun _ _ h => h⟩
  · obtain rfl : rw_ = 3 := q2
    have x6 : ∀ x : WE W1, x.W.cell? ⟨g0, 6, none⟩ = some (.slice A' n' c') := fun x => (HB2.out.ext x.h).cell 6
    have x1 : ∀ x : WE W1, x.W.cell? ⟨mb, 1, none⟩ = some (.slice A1 o c1) := fun x => by rw [← HVA.out]; exact (HH1.out.ext x.h).bk.cell 1
    have xs : ∀ x : WE W1, x.W.cell? ⟨mb, 6, none⟩ = some (.int .i64 ns) := fun x => by rw [← HNS.out]; exact (HH1.out.ext x.h).bk.cell 6
    have xr : ∀ x : WE W1, x.W.cell? ⟨mb, 7, none⟩ = some (.int .i64 nr) := fun x => by rw [← HNR.out]; exact (HH1.out.ext x.h).bk.cell 7
    have HHH := Lib.hid (HH3.out rfl)
    have R4' := Lib.hid (R4.out rfl)
    have R5' := Lib.hid (R5.out rfl)
    clear R4 R5 R21 R22 R23 R24 HR2 HR3 HH3 HV HEN HGH B2 q0 qb0 hwnz
    go_wp2_with fail
    (refine wp_region_ext (w0 := W1) (by kernel_rfl) (by kernel_rfl) (by (repeat (with_reducible first | exact Ext.refl _ | assumption | refine Ext.drew ?_ | refine Ext.drewN ?_ _ | refine Ext.alloc ?_ _ | refine Ext.trans ?_ (by with_reducible assumption)))) ?_; (repeat (go_big_quiet_step ((first | (go_at_call 21; exact quietE (HRO.out _ (HE2.out.trans (WE.h _)))) | (go_at_call 68; exact quietE (HGC.out _ (HE2.out.trans (WE.h _)))))))); refine wpQuiet_nil ?_)
    intro w3 hb3
    have HE3 := Lib.hid (HE2.out.trans hb3)
    clear y0 z0 x6 x1 xs xr HB2 HB1 HH1 HE2 hb3 HRO HGC
    by_cases hk : gk = 0
    · have HR := Lib.hid (R5'.out hk)
      subst hk
      clear R4' R5' HF
      go_wp2_with fail
      refine (HHH.out _ HE3.out).mono ?_
      rintro _ w4 ⟨rfl, hp2, hp3⟩
      have HP2 := Lib.hid hp2
      have HP3 := Lib.hid hp3
      clear hp2 hp3
      go_wp2_with fail
      go_ret
      rw [HR.out]
      exact ⟨rfl, HP2.out, (HE3.out.chg P).trans HP3.out fun _ _ h => h⟩
    · have HR := Lib.hid (R4'.out hk)
      have hok : (gk == 0) = false := beq_eq_false_iff_ne.2 hk
      clear R4' R5' HHH hk
      go_wp2_with fail
      refine (HF.out _ HE3.out).mono ?_
      rintro _ w4 ⟨⟨v4, rfl⟩, hp2, hp3⟩
      have HP2 := Lib.hid hp2
      have HP3 := Lib.hid hp3
      clear hp2 hp3
      go_wp2_with fail
      go_ret
      rw [HR.out]
      exact ⟨rfl, HP2.out, (HE3.out.chg P).trans HP3.out fun _ _ h => h⟩
/-- Hear, of a references' mirror that lies in some blocks -/
theorem RHear_any (P : Nat → Prop) (mb : Nat) (m : Mi) (r : Rp) (A : Option Addr) (n c : Nat) (A' : Option Addr) (n' c' : Nat) (w : World) (h : MM 31 w P mb m) (hPn : ∀ g, w.heap.size ≤ g → P g)
    (hr : Rd w 2 A n c (r.ents.flatMap Ent.cells)) (hm : c ≤ maxLen) (hr' : Rd w 1 A' n' c' (r.proof.map (Value.int .i64))) (hm' : c' ≤ maxLen) :
    Calls Tryz.prog 38 #[.pointer (some ⟨mb, 0, none⟩), replyV r.what r.head A n c A' n' c'] w (RPost w P mb (m.hear r)) := by
  obtain ⟨va, vw, h1, h2⟩ := h
  exact RHearP_any P mb va vw m r A n c A' n' c' w h1 h2 hPn hr hm hr' hm'
theorem MM.wantR {P : Nat → Prop} {mb : Nat} {m : Mi} {w : World} (h : MM 31 w P mb m) : Calls Tryz.prog 17 #[.pointer (some ⟨mb, 0, none⟩)] w fun e w' => e = .returned m.want.val ∧ Ext w w' := by
  obtain ⟨va, vw, h1, h2⟩ := h
  exact RMWant_any mb va vw m w h1
theorem MM.rootR {P : Nat → Prop} {mb : Nat} {m : Mi} {w : World} (h : MM 31 w P mb m) : Calls Tryz.prog 21 #[.pointer (some ⟨mb, 0, none⟩)] w fun e w' => e = .returned (.int .i64 (rootE m.own)) ∧ Ext w w' := by
  obtain ⟨va, vw, h1, h2⟩ := h
  exact RMRoot_any mb va vw m w h1
end Go.Proofs.YtnphbkjkeipmmaaGreatDoor
