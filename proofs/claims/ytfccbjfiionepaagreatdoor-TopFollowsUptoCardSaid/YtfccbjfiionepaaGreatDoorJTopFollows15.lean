/- head.Sign. -/
import Derived.Test.YtfccbjfiionepaaGreatDoorJTopFollows12
import Derived.Test.YtfccbjfiionepaaGreatDoorJTopFollows10
import Derived.Test.YtfccbjfiionepaaGreatDoorJTopFollows11
namespace Go.Proofs.YtfccbjfiionepaaGreatDoor
open Go.RowKit Go.WideShapes
set_option linter.unusedVariables false
attribute [local go_sem ↓] Go.wp_at_zero Go.wp_at_succ

theorem Bk.put4 {w : World} {g : Nat} {t : TypeId} {a b c d : Value} (h : Bk w g t #[a, b, c, d]) (a' b' c' d' : Value) : Bk ((((w.setCell ⟨g, 0, none⟩ a').setCell ⟨g, 1, none⟩ b').setCell ⟨g, 2, none⟩ c').setCell ⟨g, 3, none⟩ d') g t #[a', b', c', d'] :=
  (((h.set_ 0 a').set_ 1 b').set_ 2 c').set_ 3 d'
theorem Ext.put4 {w0 w : World} {g : Nat} (h : Ext w0 w) (hg : w0.heap.size ≤ g) (a' b' c' d' : Value) : Ext w0 ((((w.setCell ⟨g, 0, none⟩ a').setCell ⟨g, 1, none⟩ b').setCell ⟨g, 2, none⟩ c').setCell ⟨g, 3, none⟩ d') :=
  (((h.setCell hg _).setCell hg _).setCell hg _).setCell hg _

set_option maxRecDepth 100000 in
set_option maxHeartbeats 1000000 in
theorem Sign_any (h : Hd) (key : Int) (w : World) (hD : DebG w) (hP : PowG w) :
    Calls Tryz.prog 46 #[h.val, .int .i64 key] w fun e w' => e = .returned (.tuple #[(sgnH h key).val, errR (sgnK h key)]) ∧ Ext w w' := by
  obtain ⟨hE, hN, hG0⟩ := errR_rules
  have HK := Lib.hid fun W => HKey_any key W
  have HC := Lib.hid fun W => HCheck_any (blank h) W
  have HSG : Hid (keyI key = true → (blank h).ok = true → ∀ W, Ext w W → Calls Tryz.prog 52 #[(blank h).val, .int .i64 key] W fun e w' => e = .returned (.int .i64 (signI h key)) ∧ Ext W w') := Lib.hid fun hk ho W e => by
    obtain ⟨a1, a2, a3, a4, a5, a6⟩ := Hd.ok_parts ho
    exact sign_any (blank h) key W ⟨a1, a2, a3, a4⟩ a5 hk (hD.ext e) (hP.ext e)
  have HV1 : Hid (keyI key = false → sgnK h key = 1 ∧ sgnH h key = ⟨0, 0, 0, 0⟩) := Lib.hid fun hk => by unfold sgnK sgnH; rw [if_neg (by rw [hk]; simp), if_neg (by rw [hk]; simp)]; exact ⟨rfl, rfl⟩
  have HV2 : Hid ((blank h).ok = false → sgnK h key = 1 ∧ sgnH h key = ⟨0, 0, 0, 0⟩) := Lib.hid fun ho => by unfold sgnK sgnH; rw [if_neg (by rw [ho]; simp), if_neg (by rw [ho]; simp)]; exact ⟨rfl, rfl⟩
  have HV3 : Hid (keyI key = true → (blank h).ok = true → sgnK h key = 0 ∧ sgnH h key = ⟨h.size, h.root, h.time, signI h key⟩) := Lib.hid fun hk ho => by unfold sgnK sgnH; rw [if_pos (by rw [hk, ho]; rfl), if_pos (by rw [hk, ho]; rfl)]; exact ⟨rfl, rfl⟩
  have HC1 : Hid ((blank h).ok = true → hdK (blank h) = 0) := Lib.hid fun ho => if_pos ho
  have HC2 : Hid ((blank h).ok = false → hdK (blank h) = 1) := Lib.hid fun ho => if_neg (by rw [ho]; decide)
  obtain ⟨v, hv⟩ : ∃ v, sgnK h key = v := ⟨_, rfl⟩
  obtain ⟨z, hz⟩ : ∃ v, sgnH h key = v := ⟨_, rfl⟩
  rw [hv, hz] at HV1 HV2 HV3
  rw [hv, hz]
  obtain ⟨sg, hsg⟩ : ∃ v, signI h key = v := ⟨_, rfl⟩
  rw [hsg] at HV3 HSG
  obtain ⟨kb, hkb⟩ : ∃ v, keyI key = v := ⟨_, rfl⟩
  obtain ⟨ob, hob⟩ : ∃ v, (blank h).ok = v := ⟨_, rfl⟩
  obtain ⟨hk, hhk⟩ : ∃ v, hdK (blank h) = v := ⟨_, rfl⟩
  rw [hkb] at HK HSG HV1 HV3
  rw [hob] at HSG HV2 HV3 HC1 HC2
  rw [hhk] at HC HC1 HC2
  obtain ⟨a, b, c, d⟩ := h
  simp only [Hd.val, blank] at *
  clear hv hz hsg hkb hob hhk hD hP
  have A0 := Bk.at_ w 40 #[.int .i64 a, .int .i64 b, .int .i64 c, .int .i64 d] w.heap.size rfl
  have A1 := A0.alloc (.cells #[.int .i64 0, .int .i64 0, .int .i64 0, .int .i64 0] 40)
  have B1 := Bk.at_ (w.alloc (.cells #[.int .i64 a, .int .i64 b, .int .i64 c, .int .i64 d] 40)) 40 #[.int .i64 0, .int .i64 0, .int .i64 0, .int .i64 0] (w.heap.size + 1) (by simp)
  have e0 : Ext w ((w.alloc (.cells #[.int .i64 a, .int .i64 b, .int .i64 c, .int .i64 d] 40)).alloc (.cells #[.int .i64 0, .int .i64 0, .int .i64 0, .int .i64 0] 40)) := by (repeat (with_reducible first | exact Ext.refl _ | assumption | refine Ext.drew ?_ | refine Ext.drewN ?_ _ | refine Ext.alloc ?_ _ | refine Ext.trans ?_ (by with_reducible assumption)))
  clear A0
  go_enter Tryz.func46, Tryz.ntmps46
  go_upto_region 1 with (fail)
  generalize ((w.alloc (.cells #[.int .i64 a, .int .i64 b, .int .i64 c, .int .i64 d] 40)).alloc (.cells #[.int .i64 0, .int .i64 0, .int .i64 0, .int .i64 0] 40)) = W0 at *
  obtain ⟨g0, hg0⟩ : ∃ g, w.heap.size = g := ⟨_, rfl⟩
  rw [hg0] at A1 B1
  try rw [hg0]
  have f3 := A1.frozen 3
  have y3 := A1.cell 3
  go_upto_region 2 with (fail)
  have A2 : Bk (W0.setCell ⟨g0, 3, none⟩ (.int .i64 0)) g0 40 #[.int .i64 a, .int .i64 b, .int .i64 c, .int .i64 0] := A1.set_ 3 _
  have B2 := B1.far (p := ⟨g0, 3, none⟩) (by simp) (.int .i64 0)
  have e2 : Ext w (W0.setCell ⟨g0, 3, none⟩ (.int .i64 0)) := e0.setCell (by rw [hg0]; exact Nat.le_refl _) _
  generalize W0.setCell ⟨g0, 3, none⟩ (.int .i64 0) = W2 at *
  have HE2 := Lib.hid e2
  have hgg := Lib.hid hg0
  have HB2 := Lib.hid B2
  clear A1 B1 e0 e2 f3 y3 hg0
  have hE4 : ∀ W, Ext W2 W → Ext w ((((W.setCell ⟨g0 + 1, 0, none⟩ (.int .i64 0)).setCell ⟨g0 + 1, 1, none⟩ (.int .i64 0)).setCell ⟨g0 + 1, 2, none⟩ (.int .i64 0)).setCell ⟨g0 + 1, 3, none⟩ (.int .i64 0)) := fun W e => (HE2.out.trans e).put4 (by rw [hgg.out]; omega) _ _ _ _
  have HE4 := Lib.hid hE4
  clear hE4
  cases kb with
  | false =>
    obtain ⟨rfl, rfl⟩ := HV1.out rfl
    clear HV1 HV2 HV3 HC1 HC2 HC HSG
    have q0 := HB2.out.frozen 0
    have q1 := HB2.out.frozen 1
    have q2 := HB2.out.frozen 2
    have q3 := HB2.out.frozen 3
    have z0 := HB2.out.cell 0
    have z1 := HB2.out.cell 1
    have z2 := HB2.out.cell 2
    have z3 := HB2.out.cell 3
    go_wp2_with fail
    refine (HK.out _).mono ?_
    rintro _ _ ⟨rfl, rfl⟩
    go_wp2_with fail
    have P := HB2.out.put4 (.int .i64 0) (.int .i64 0) (.int .i64 0) (.int .i64 0)
    have p0 := P.cell 0
    have p1 := P.cell 1
    have p2 := P.cell 2
    have p3 := P.cell 3
    refine bodyPost_ret (by simp [results, Tryz.results46, go_sem, p0, p1, p2, p3]; try rfl) rfl ?_
    exact ⟨rfl, HE4.out _ (Ext.refl _)⟩
  | true =>
    have y0 := A2.cell 0
    have y1 := A2.cell 1
    have y2 := A2.cell 2
    have y3 := A2.cell 3
    cases ob with
    | false =>
      obtain ⟨rfl, rfl⟩ := HV2.out rfl
      obtain rfl := HC2.out rfl
      clear HV1 HV2 HV3 HC1 HC2 HSG
      go_wp2_with fail
      refine (HK.out _).mono ?_
      rintro _ _ ⟨rfl, rfl⟩
      go_wp2_with fail
      refine (HC.out _).mono ?_
      rintro _ w2 ⟨rfl, hb2⟩
      have B3 := HB2.out.ext hb2
      have q0 := B3.frozen 0
      have q1 := B3.frozen 1
      have q2 := B3.frozen 2
      have q3 := B3.frozen 3
      have z0 := B3.cell 0
      have z1 := B3.cell 1
      have z2 := B3.cell 2
      have z3 := B3.cell 3
      go_wp2_with fail
      have P := B3.put4 (.int .i64 0) (.int .i64 0) (.int .i64 0) (.int .i64 0)
      have p0 := P.cell 0
      have p1 := P.cell 1
      have p2 := P.cell 2
      have p3 := P.cell 3
      refine bodyPost_ret (by simp [results, Tryz.results46, go_sem, p0, p1, p2, p3]; try rfl) rfl ?_
      exact ⟨rfl, HE4.out _ hb2⟩
    | true =>
      obtain ⟨rfl, rfl⟩ := HV3.out rfl rfl
      obtain rfl := HC1.out rfl
      have HS := Lib.hid (HSG.out rfl rfl)
      rw [errR_0] at HC
      clear HV1 HV2 HV3 HC1 HC2 HSG HE4
      go_wp2_with fail
      refine (HK.out _).mono ?_
      rintro _ _ ⟨rfl, rfl⟩
      go_wp2_with fail
      refine (HC.out _).mono ?_
      rintro _ w2 ⟨rfl, hb2⟩
      have A3 := A2.ext hb2
      clear y0 y1 y2 y3
      have y0 := A3.cell 0
      have y1 := A3.cell 1
      have y2 := A3.cell 2
      have y3 := A3.cell 3
      have HE3 := Lib.hid (HE2.out.trans hb2)
      go_wp2_with fail
      refine (HS.out _ HE3.out).mono ?_
      rintro _ w3 ⟨rfl, hb3⟩
      have A4 := A3.ext hb3
      have B4 := (HB2.out.ext hb2).ext hb3
      have f4 := A4.frozen 3
      have u4 := A4.cell 3
      have e3 := HE3.out.trans hb3
      clear y0 y1 y2 y3
      go_upto_region 5 with (fail)
      have A5 : Bk (w3.setCell ⟨g0, 3, none⟩ (.int .i64 sg)) g0 40 #[.int .i64 a, .int .i64 b, .int .i64 c, .int .i64 sg] := A4.set_ 3 _
      have B5 := B4.far (p := ⟨g0, 3, none⟩) (by simp) (.int .i64 sg)
      have e5 : Ext w (w3.setCell ⟨g0, 3, none⟩ (.int .i64 sg)) := e3.setCell (by rw [hgg.out]; exact Nat.le_refl _) _
      generalize w3.setCell ⟨g0, 3, none⟩ (.int .i64 sg) = W5 at *
      have HE5 := Lib.hid e5
      clear A2 A3 A4 B4 f4 u4 e3 e5 hb2 hb3
      have y0 := A5.cell 0
      have y1 := A5.cell 1
      have y2 := A5.cell 2
      have y3 := A5.cell 3
      have q0 := B5.frozen 0
      have q1 := B5.frozen 1
      have q2 := B5.frozen 2
      have q3 := B5.frozen 3
      have z0 := B5.cell 0
      have z1 := B5.cell 1
      have z2 := B5.cell 2
      have z3 := B5.cell 3
      go_wp2_with fail
      have P := B5.put4 (.int .i64 a) (.int .i64 b) (.int .i64 c) (.int .i64 sg)
      have p0 := P.cell 0
      have p1 := P.cell 1
      have p2 := P.cell 2
      have p3 := P.cell 3
      refine bodyPost_ret (by simp [results, Tryz.results46, go_sem, p0, p1, p2, p3]; try rfl) rfl ?_
      exact ⟨rfl, HE5.out.put4 (by rw [hgg.out]; omega) _ _ _ _⟩
end Go.Proofs.YtfccbjfiionepaaGreatDoor

namespace Go.Proofs.YtfccbjfiionepaaGreatDoor
open Go.RowKit
set_option linter.unusedVariables false
attribute [local go_sem ↓] Go.wp_at_zero Go.wp_at_succ

def someE (j : Nat) : Ent := ⟨(j : Int), digB j⟩
def someL (n : Nat) : List Ent := (List.range n).map someE
theorem someL_snoc (n : Nat) : someL (n + 1) = someL n ++ [someE n] := by simp [someL, List.range_succ]
theorem someL_len (n : Nat) : (someL n).length = n := by simp [someL]
theorem someL_ok (n : Nat) (h : n ≤ 200) : entsOk (someL n) := by
  refine ⟨by rw [someL_len]; exact h, fun e he => ?_⟩
  unfold someL at he
  rw [List.mem_map] at he
  obtain ⟨j, hj, rfl⟩ := he
  rw [List.mem_range] at hj
  have := digB_size j j (Nat.le_refl _)
  exact ⟨by show (0 : Int) ≤ (j : Int); omega, by show (j : Int) ≤ 1000000; omega, by show (digB j).size ≤ 200; omega⟩

end Go.Proofs.YtfccbjfiionepaaGreatDoor

/- head.Better, both ways. -/
namespace Go.Proofs.YtfccbjfiionepaaGreatDoor
open Go.RowKit Go.WideShapes
set_option linter.unusedVariables false
attribute [local go_sem ↓] Go.wp_at_zero Go.wp_at_succ

def better (a b : Hd) : Bool := decide (b.size < a.size ∨ (a.size = b.size ∧ b.time < a.time))
theorem Check_ok (h : Hd) (w : World) (k : h.ok = true) : Calls Tryz.prog 51 #[h.val] w fun e w' => e = .returned .nilIface ∧ Ext w w' := by
  have := HCheck_any h w
  rw [show hdK h = 0 from if_pos k, errR_0] at this
  exact this
theorem Check_bad (h : Hd) (w : World) (k : h.ok = false) : Calls Tryz.prog 51 #[h.val] w fun e w' => e = .returned (errV 1) ∧ Ext w w' := by
  have := HCheck_any h w
  rw [show hdK h = 1 from if_neg (by rw [k]; decide), errR_ne (by decide)] at this
  exact this

set_option maxRecDepth 100000 in
set_option maxHeartbeats 1000000 in
theorem Better_ok (a b : Hd) (w : World) (ka : a.ok = true) (kb : b.ok = true) : Calls Tryz.prog 126 #[a.val, b.val] w fun e w' => e = .returned (.tuple #[.bool (better a b), .nilIface]) ∧ Ext w w' := by
  have HA := Lib.hid ka
  have HB := Lib.hid kb
  clear ka kb
  obtain ⟨a1, a2, a3, a4⟩ := a
  obtain ⟨b1, b2, b3, b4⟩ := b
  simp only [Hd.val]
  go_enter Tryz.func126, Tryz.ntmps126
  go_wp2
  refine wp_loop_rounds 3 ?_
  rw [rounds_succ]
  go_wp2_with fail
  refine (Check_ok ⟨a1, a2, a3, a4⟩ _ HA.out).mono ?_
  rintro e w1 ⟨rfl, hb1⟩
  have A1 : Bk w1 w.heap.size 40 #[.int .i64 a1, .int .i64 a2, .int .i64 a3, .int .i64 a4] := by (repeat (with_reducible first | assumption | (refine Bk.at_ _ _ _ _ ?_; simp; done) | refine Bk.drew ?_ | refine Bk.drewN ?_ _ | refine Bk.alloc ?_ _ | refine Bk.ext ?_ (by with_reducible assumption)))
  have B1 : Bk w1 (w.heap.size + 1) 40 #[.int .i64 b1, .int .i64 b2, .int .i64 b3, .int .i64 b4] := by (repeat (with_reducible first | assumption | (refine Bk.at_ _ _ _ _ ?_; simp; done) | refine Bk.drew ?_ | refine Bk.drewN ?_ _ | refine Bk.alloc ?_ _ | refine Bk.ext ?_ (by with_reducible assumption)))
  have C1 : Bk w1 (w.heap.size + 1 + 1) 40 #[.int .i64 a1, .int .i64 a2, .int .i64 a3, .int .i64 a4, .int .i64 b1, .int .i64 b2, .int .i64 b3, .int .i64 b4] := by (repeat (with_reducible first | assumption | (refine Bk.at_ _ _ _ _ ?_; simp; done) | refine Bk.drew ?_ | refine Bk.drewN ?_ _ | refine Bk.alloc ?_ _ | refine Bk.ext ?_ (by with_reducible assumption)))
  have q := C1.cell
  go_wp2_with fail
  rw [rounds_succ]
  go_wp2_with fail
  refine (Check_ok ⟨b1, b2, b3, b4⟩ _ HB.out).mono ?_
  rintro e w2 ⟨rfl, hb2⟩
  have A2 : Bk w2 w.heap.size 40 #[.int .i64 a1, .int .i64 a2, .int .i64 a3, .int .i64 a4] := by (repeat (with_reducible first | assumption | (refine Bk.at_ _ _ _ _ ?_; simp; done) | refine Bk.drew ?_ | refine Bk.drewN ?_ _ | refine Bk.alloc ?_ _ | refine Bk.ext ?_ (by with_reducible assumption)))
  have B2 : Bk w2 (w.heap.size + 1) 40 #[.int .i64 b1, .int .i64 b2, .int .i64 b3, .int .i64 b4] := by (repeat (with_reducible first | assumption | (refine Bk.at_ _ _ _ _ ?_; simp; done) | refine Bk.drew ?_ | refine Bk.drewN ?_ _ | refine Bk.alloc ?_ _ | refine Bk.ext ?_ (by with_reducible assumption)))
  have qa := A2.cell
  have qb := B2.cell
  clear q
  go_wp2_with fail
  rw [rounds_succ]
  go_wp2_with fail
  all_goals
    go_ret2
    refine ⟨ret_two (congrArg Value.bool ?_) rfl, by (repeat (with_reducible first | exact Ext.refl _ | assumption | refine Ext.drew ?_ | refine Ext.drewN ?_ _ | refine Ext.alloc ?_ _ | refine Ext.trans ?_ (by with_reducible assumption)))⟩
    unfold better
    with_reducible first
      | exact decide_eq_decide.2 (by dsimp only; omega)
      | exact (decide_eq_true (by dsimp only; omega)).symm
      | exact (decide_eq_false (by dsimp only; omega)).symm

set_option maxRecDepth 100000 in
set_option maxHeartbeats 1000000 in
theorem Better_bad (a b : Hd) (w : World) (k : ¬ (a.ok = true ∧ b.ok = true)) : Calls Tryz.prog 126 #[a.val, b.val] w fun e w' => e = .returned (.tuple #[.bool false, errV 1]) ∧ Ext w w' := by
  cases ka : a.ok
  · have HA := Lib.hid ka
    clear ka k
    obtain ⟨a1, a2, a3, a4⟩ := a
    obtain ⟨b1, b2, b3, b4⟩ := b
    simp only [Hd.val]
    go_enter Tryz.func126, Tryz.ntmps126
    go_wp2
    refine wp_loop_rounds 3 ?_
    rw [rounds_succ]
    go_wp2_with fail
    refine (Check_bad ⟨a1, a2, a3, a4⟩ _ HA.out).mono ?_
    rintro e w1 ⟨rfl, hb1⟩
    simp only [errV]
    go_wp2_with fail
    go_ret2
    exact ⟨rfl, by (repeat (with_reducible first | exact Ext.refl _ | assumption | refine Ext.drew ?_ | refine Ext.drewN ?_ _ | refine Ext.alloc ?_ _ | refine Ext.trans ?_ (by with_reducible assumption)))⟩
  · have HA := Lib.hid ka
    have HB := Lib.hid (show b.ok = false by cases h : b.ok with | false => rfl | true => exact absurd ⟨ka, h⟩ k)
    clear ka k
    obtain ⟨a1, a2, a3, a4⟩ := a
    obtain ⟨b1, b2, b3, b4⟩ := b
    simp only [Hd.val]
    go_enter Tryz.func126, Tryz.ntmps126
    go_wp2
    refine wp_loop_rounds 3 ?_
    rw [rounds_succ]
    go_wp2_with fail
    refine (Check_ok ⟨a1, a2, a3, a4⟩ _ HA.out).mono ?_
    rintro e w1 ⟨rfl, hb1⟩
    have C1 : Bk w1 (w.heap.size + 1 + 1) 40 #[.int .i64 a1, .int .i64 a2, .int .i64 a3, .int .i64 a4, .int .i64 b1, .int .i64 b2, .int .i64 b3, .int .i64 b4] := by (repeat (with_reducible first | assumption | (refine Bk.at_ _ _ _ _ ?_; simp; done) | refine Bk.drew ?_ | refine Bk.drewN ?_ _ | refine Bk.alloc ?_ _ | refine Bk.ext ?_ (by with_reducible assumption)))
    have q := C1.cell
    go_wp2_with fail
    rw [rounds_succ]
    go_wp2_with fail
    refine (Check_bad ⟨b1, b2, b3, b4⟩ _ HB.out).mono ?_
    rintro e w2 ⟨rfl, hb2⟩
    simp only [errV]
    go_wp2_with fail
    go_ret2
    exact ⟨rfl, by (repeat (with_reducible first | exact Ext.refl _ | assumption | refine Ext.drew ?_ | refine Ext.drewN ?_ _ | refine Ext.alloc ?_ _ | refine Ext.trans ?_ (by with_reducible assumption)))⟩

/-- the fault of two heads -/
def twoK (a b : Hd) : Int := if hdK a = 0 then hdK b else hdK a
def betB2 (a b : Hd) : Bool := isOk (twoK a b) && better a b
theorem Better_any (a b : Hd) (w : World) : Calls Tryz.prog 126 #[a.val, b.val] w fun e w' => e = .returned (.tuple #[.bool (betB2 a b), errR (twoK a b)]) ∧ Ext w w' := by
  by_cases h : a.ok = true ∧ b.ok = true
  · have h1 : hdK a = 0 := if_pos h.1
    have h2 : hdK b = 0 := if_pos h.2
    have h3 : twoK a b = 0 := by unfold twoK; rw [if_pos h1, h2]
    have h4 : betB2 a b = better a b := by unfold betB2; rw [h3]; rfl
    rw [h4, h3]
    exact Better_ok a b w h.1 h.2
  · have h3 : twoK a b = 1 := by
      unfold twoK
      cases ha : a.ok with
      | true =>
        have hb : ¬ b.ok = true := fun e => h ⟨ha, e⟩
        rw [show hdK a = 0 from if_pos ha, if_pos rfl]
        exact if_neg hb
      | false =>
        have h1 : hdK a = 1 := if_neg (by rw [ha]; decide)
        rw [h1, if_neg (by decide)]
    have h4 : betB2 a b = false := by unfold betB2; rw [h3]; rfl
    rw [h4, h3]
    exact Better_bad a b w h
end Go.Proofs.YtfccbjfiionepaaGreatDoor
