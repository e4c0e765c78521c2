/- The references' LogHead. -/
import Derived.Test.YtmknpehjncpekaaGreatDoorJMirrorPlays17
import Derived.Test.YtmknpehjncpekaaGreatDoorJMirrorPlays13
import Derived.Test.YtmknpehjncpekaaGreatDoorJMirrorPlays12
import Derived.Test.YtmknpehjncpekaaGreatDoorJMirrorPlays15
namespace Go.Proofs.YtmknpehjncpekaaGreatDoor
open Go.RowKit Go.WideShapes
set_option linter.unusedVariables false
attribute [local go_sem ↓] Go.wp_at_zero Go.wp_at_succ

set_option maxRecDepth 100000 in
set_option maxHeartbeats 2000000 in
theorem LogHead_any (A : Option Addr) (n c : Nat) (es : List Ent) (key now : Int) (w : World) (hr : Rd w 2 A n c (es.flatMap Ent.cells)) (hm : c ≤ maxLen) :
    Calls Tryz.prog 20 #[.slice A n c, .int .i64 key, .int .i64 now] w fun e w' => e = .returned (.tuple #[(shH es key now).val, .int .i64 (shK es key now)]) ∧ Ext w w' := by
  have hx := hr.lenE
  have hnc := hr.2.1
  have hcs : c ≤ 9223372036854775807 := by unfold maxLen at hm; omega
  have HRE : Hid (∀ W, Ext w W → Calls Tryz.prog 24 #[.slice A n c] W fun e w' => e = .returned (.int .i64 (entsErr es)) ∧ Ext W w') := Lib.hid fun W e => REntries_any A n c es W (hr.ext e) hm
  have HRL : Hid (entsOk es → ∀ W, Ext w W → Calls Tryz.prog 22 #[.slice A n c] W fun e w' => (∃ A2 c2, e = .returned (.slice A2 n c2) ∧ c2 ≤ maxLen ∧ Rd w' 1 A2 n c2 ((es.map Ent.leaf).map (Value.int .i64))) ∧ Ext W w') := Lib.hid fun hk W e => by
    refine (REntryLeafs_ok A n c es W (hr.ext e) hm hk).mono fun e' w' hh => ?_
    obtain ⟨⟨v, q1, q2⟩, q3⟩ := hh
    obtain ⟨A2, c2, rfl, q4, q5⟩ := q2.rd
    rw [List.length_map, hx] at q1 q5
    exact ⟨⟨A2, c2, q1, q4, q5⟩, q3⟩
  have HKB := Lib.hid fun W => RKeyB_any key W
  have S1 : Hid (entsErr es ≠ 0 → shK es key now = entsErr es ∧ shH es key now = ⟨0, 0, 0, 0⟩) := Lib.hid fun e => ⟨if_pos e, if_pos e⟩
  have S2 : Hid (entsErr es = 0 → (keyI key && (blank (lgB n (ofL (es.map Ent.leaf)) now)).ok) = false → shK es key now = 1 ∧ shH es key now = ⟨0, 0, 0, 0⟩) := Lib.hid fun e e2 => by
    unfold shK shH sgnK sgnH
    rw [if_neg (not_not_intro e), if_neg (not_not_intro e), hx, if_neg (by rw [e2]; decide), if_neg (by rw [e2]; decide)]
    exact ⟨rfl, rfl⟩
  have S3 : Hid (entsErr es = 0 → keyI key = true → (blank (lgB n (ofL (es.map Ent.leaf)) now)).ok = true → shK es key now = 0 ∧ shH es key now = ⟨(n : Int), ofL (es.map Ent.leaf), now, signI (lgB n (ofL (es.map Ent.leaf)) now) key⟩) := Lib.hid fun e e2 e3 => by
    unfold shK shH sgnK sgnH
    rw [if_neg (not_not_intro e), if_neg (not_not_intro e), hx, if_pos (by rw [e2, e3]; rfl), if_pos (by rw [e2, e3]; rfl)]
    exact ⟨rfl, rfl⟩
  have HOKE : Hid (entsErr es = 0 → entsOk es) := Lib.hid fun e => Classical.byContradiction fun h => entsErr_bad h e
  have HLO : Hid (entsOk es → n ≤ 200 ∧ allV (es.map Ent.leaf) = true) := Lib.hid fun h => ⟨by have := h.1; omega, (leafs_of_ents h).2⟩
  obtain ⟨ek, hek⟩ : ∃ x, entsErr es = x := ⟨_, rfl⟩
  obtain ⟨zh, hzh⟩ : ∃ x, shH es key now = x := ⟨_, rfl⟩
  obtain ⟨zk, hzk⟩ : ∃ x, shK es key now = x := ⟨_, rfl⟩
  obtain ⟨xs, hxs⟩ : ∃ x, es.map Ent.leaf = x := ⟨_, rfl⟩
  rw [hek] at HRE S1 S2 S3 HOKE
  rw [hzh, hzk] at S1 S2 S3
  rw [hxs] at S2 S3 HRL HLO
  rw [hzh, hzk]
  obtain ⟨r, hrr⟩ : ∃ x, ofL xs = x := ⟨_, rfl⟩
  have HRR := Lib.hid hrr
  rw [hrr] at S2 S3
  obtain ⟨kb, hkb⟩ : ∃ x, keyI key = x := ⟨_, rfl⟩
  have HKI := Lib.hid hkb
  rw [hkb] at HKB S2 S3
  clear hek hzh hzk hxs hrr hkb hr hx hm
  have B0 := Bk.at_ w 34 #[.int .i64 0, .int .i64 0, .int .i64 0, .int .i64 0] w.heap.size rfl
  have e0 : Ext w (w.alloc (.cells #[.int .i64 0, .int .i64 0, .int .i64 0, .int .i64 0] 34)) := (Ext.refl _).alloc _
  simp only [Hd.val] at *
  go_enter Tryz.func20, Tryz.ntmps20
  go_upto_region 1 with (fail)
  generalize (w.alloc (.cells #[.int .i64 0, .int .i64 0, .int .i64 0, .int .i64 0] 34)) = W0 at *
  obtain ⟨g0, hg0⟩ : ∃ g, w.heap.size = g := ⟨_, rfl⟩
  rw [hg0] at B0
  try rw [hg0]
  have HG := Lib.hid hg0
  have HE0 := Lib.hid e0
  have HB0 := Lib.hid B0
  clear e0 hg0 B0
  go_wp2_with fail
  refine (HRE.out _ HE0.out).mono ?_
  rintro _ w1 ⟨rfl, hb1⟩
  have HE1 := Lib.hid (HE0.out.trans hb1)
  have HB1 := Lib.hid (HB0.out.ext hb1)
  clear hb1 HRE
  by_cases h0 : ek = 0
  case neg =>
    obtain ⟨rfl, rfl⟩ := S1.out h0
    have hb : (zk == 0) = false := beq_eq_false_iff_ne.2 h0
    clear S1 S2 S3 HOKE HRL h0
    have q0 := HB1.out.frozen 0
    have q1 := HB1.out.frozen 1
    have q2 := HB1.out.frozen 2
    have q3 := HB1.out.frozen 3
    have y0 := HB1.out.cell 0
    have y1 := HB1.out.cell 1
    have y2 := HB1.out.cell 2
    have y3 := HB1.out.cell 3
    go_wp2_with fail
    have P := HB1.out.put4 (.int .i64 0) (.int .i64 0) (.int .i64 0) (.int .i64 0)
    have p0 := P.cell 0
    have p1 := P.cell 1
    have p2 := P.cell 2
    have p3 := P.cell 3
    refine bodyPost_ret (by simp [results, Tryz.results20, go_sem, p0, p1, p2, p3]; try rfl) rfl ?_
    exact ⟨rfl, HE1.out.put4 (by rw [HG.out]; exact Nat.le_refl _) _ _ _ _⟩
  subst h0
  have HOK := Lib.hid (HOKE.out rfl)
  have HLS := Lib.hid (HRL.out HOK.out)
  obtain ⟨hn200, hav⟩ := HLO.out HOK.out
  have HAV := Lib.hid hav
  clear HOKE HRL hav S1
  go_wp2_with fail
  refine (HLS.out _ HE1.out).mono ?_
  rintro _ w2 ⟨⟨A2, c2, rfl, hc2, R2⟩, hb2⟩
  have HR2 := Lib.hid R2
  have HE2 := Lib.hid (HE1.out.trans hb2)
  have HB2 := Lib.hid (HB1.out.ext hb2)
  clear hb2 R2 HLS
  go_wp2_with fail
  refine (RRoot_any n A2 n c2 xs _ (Nat.le_refl _) HR2.out hc2 (by omega) HAV.out).mono ?_
  rw [HRR.out]
  rintro _ w3 ⟨rfl, hb3⟩
  have B9 := Bk.at_ w3 34 #[.int .i64 n, .int .i64 r, .int .i64 now, .int .i64 0] w3.heap.size rfl
  have e3 : Ext w2 (w3.alloc (.cells #[.int .i64 n, .int .i64 r, .int .i64 now, .int .i64 0] 34)) := hb3.alloc _
  have hs3 := (HE2.out.trans hb3).size
  go_upto_region 5 with (fail)
  generalize w3.alloc (.cells #[.int .i64 n, .int .i64 r, .int .i64 now, .int .i64 0] 34) = W3 at *
  obtain ⟨g9, hg9⟩ : ∃ g, w3.heap.size = g := ⟨_, rfl⟩
  rw [hg9] at B9 hs3
  try rw [hg9]
  have HE3 := Lib.hid (HE2.out.trans e3)
  have HB3 := Lib.hid (HB2.out.ext e3)
  have HB9 := Lib.hid B9
  have hg09 : g0 ≠ g9 := by have := HB2.out.lt; have := hb3.size; omega
  clear hb3 e3 hg9 B9 HR2
  have a0 := HB9.out.cell 0
  have a1 := HB9.out.cell 1
  have a2 := HB9.out.cell 2
  have a3 := HB9.out.cell 3
  go_wp2_with fail
  refine (HKB.out _).mono ?_
  rintro _ _ ⟨rfl, rfl⟩
  have HHD := Lib.hid fun W => RHead_any ⟨(n : Int), r, now, 0⟩ W
  simp only [Hd.val] at HHD
  obtain ⟨ob, hob⟩ : ∃ x, (blank (lgB n r now)).ok = x := ⟨_, rfl⟩
  rw [hob] at S2 S3
  have hdk : hdK ⟨(n : Int), r, now, 0⟩ = if ob then 0 else 1 := by rw [← hob]; rfl
  rw [hdk] at HHD
  have HOB := Lib.hid hob
  clear hob hdk
  cases kb with
  | false =>
    obtain ⟨rfl, rfl⟩ := S2.out (by trivial) rfl
    clear S2 S3
    have q0 := HB3.out.frozen 0
    have q1 := HB3.out.frozen 1
    have q2 := HB3.out.frozen 2
    have q3 := HB3.out.frozen 3
    have y0 := HB3.out.cell 0
    have y1 := HB3.out.cell 1
    have y2 := HB3.out.cell 2
    have y3 := HB3.out.cell 3
    go_wp2_with fail
    have P := HB3.out.put4 (.int .i64 0) (.int .i64 0) (.int .i64 0) (.int .i64 0)
    have p0 := P.cell 0
    have p1 := P.cell 1
    have p2 := P.cell 2
    have p3 := P.cell 3
    refine bodyPost_ret (by simp [results, Tryz.results20, go_sem, p0, p1, p2, p3]; try rfl) rfl ?_
    exact ⟨rfl, HE3.out.put4 (by rw [HG.out]; exact Nat.le_refl _) _ _ _ _⟩
  | true =>
    cases ob with
    | false =>
      obtain ⟨rfl, rfl⟩ := S2.out (by trivial) rfl
      have HHD' : Hid (∀ W, Calls Tryz.prog 37 #[.agg #[.int .i64 n, .int .i64 r, .int .i64 now, .int .i64 0]] W fun e w' => e = .returned (.int .i64 1) ∧ Ext W w') := HHD
      clear S2 S3 HHD
      go_wp2_with fail
      refine (HHD'.out _).mono ?_
      rintro _ w4 ⟨rfl, hb4⟩
      have HB4 := HB3.out.ext hb4
      have HE4 := Lib.hid (HE3.out.trans hb4)
      have q0 := HB4.frozen 0
      have q1 := HB4.frozen 1
      have q2 := HB4.frozen 2
      have q3 := HB4.frozen 3
      have y0 := HB4.cell 0
      have y1 := HB4.cell 1
      have y2 := HB4.cell 2
      have y3 := HB4.cell 3
      clear hb4 a0 a1 a2 a3
      go_wp2_with fail
      have P := HB4.put4 (.int .i64 0) (.int .i64 0) (.int .i64 0) (.int .i64 0)
      have p0 := P.cell 0
      have p1 := P.cell 1
      have p2 := P.cell 2
      have p3 := P.cell 3
      refine bodyPost_ret (by simp [results, Tryz.results20, go_sem, p0, p1, p2, p3]; try rfl) rfl ?_
      exact ⟨rfl, HE4.out.put4 (by rw [HG.out]; exact Nat.le_refl _) _ _ _ _⟩
    | true =>
      obtain ⟨rfl, rfl⟩ := S3.out (by trivial) rfl rfl
      have HHD' : Hid (∀ W, Calls Tryz.prog 37 #[.agg #[.int .i64 n, .int .i64 r, .int .i64 now, .int .i64 0]] W fun e w' => e = .returned (.int .i64 0) ∧ Ext W w') := HHD
      obtain ⟨b1, b2, b3, b4, b5, b6⟩ := Hd.ok_parts HOB.out
      have HSG : Hid (∀ W, Calls Tryz.prog 38 #[.agg #[.int .i64 n, .int .i64 r, .int .i64 now, .int .i64 0], .int .i64 key] W fun e w' => e = .returned (.int .i64 (signI (lgB n r now) key)) ∧ Ext W w') := Lib.hid fun W => RSigned_any (lgB n r now) key W ⟨b1, b2, b3, b4⟩ b5 HKI.out
      obtain ⟨sg, hsg⟩ : ∃ x, signI (lgB n r now) key = x := ⟨_, rfl⟩
      rw [hsg] at HSG
      have HSGQ := Lib.hid hsg
      clear S2 S3 HHD hsg b1 b2 b3 b4 b5 b6
      go_wp2_with fail
      refine (HHD'.out _).mono ?_
      rintro _ w4 ⟨rfl, hb4⟩
      have HB4 := Lib.hid (HB3.out.ext hb4)
      have HB94 := HB9.out.ext hb4
      have HE4 := Lib.hid (HE3.out.trans hb4)
      clear hb4 a0 a1 a2 a3
      have a0 := HB94.cell 0
      have a1 := HB94.cell 1
      have a2 := HB94.cell 2
      have a3 := HB94.cell 3
      go_wp2_with fail
      refine (HSG.out _).mono ?_
      rintro _ w5 ⟨rfl, hb5⟩
      have HB5 := Lib.hid (HB4.out.ext hb5)
      have B95 := HB94.ext hb5
      have HE5 := Lib.hid (HE4.out.trans hb5)
      clear hb5 a0 a1 a2 a3 HB94
      have a3 := B95.cell 3
      have f3 := B95.frozen 3
      go_upto_region 9 with (fail)
      have B96 : Bk (w5.setCell ⟨g9, 3, none⟩ (.int .i64 sg)) g9 34 #[.int .i64 n, .int .i64 r, .int .i64 now, .int .i64 sg] := B95.set_ 3 _
      have B06 := HB5.out.far (p := ⟨g9, 3, none⟩) hg09 (.int .i64 sg)
      have e6 : Ext w (w5.setCell ⟨g9, 3, none⟩ (.int .i64 sg)) := HE5.out.setCell hs3 _
      generalize w5.setCell ⟨g9, 3, none⟩ (.int .i64 sg) = W6 at *
      have HE6 := Lib.hid e6
      clear a3 f3 B95 e6
      have a0 := B96.cell 0
      have a1 := B96.cell 1
      have a2 := B96.cell 2
      have a3 := B96.cell 3
      have q0 := B06.frozen 0
      have q1 := B06.frozen 1
      have q2 := B06.frozen 2
      have q3 := B06.frozen 3
      have y0 := B06.cell 0
      have y1 := B06.cell 1
      have y2 := B06.cell 2
      have y3 := B06.cell 3
      go_wp2_with fail
      have P := B06.put4 (.int .i64 n) (.int .i64 r) (.int .i64 now) (.int .i64 sg)
      have p0 := P.cell 0
      have p1 := P.cell 1
      have p2 := P.cell 2
      have p3 := P.cell 3
      refine bodyPost_ret (by simp [results, Tryz.results20, go_sem, p0, p1, p2, p3]; try rfl) rfl ?_
      exact ⟨by rw [HSGQ.out], HE6.out.put4 (by rw [HG.out]; exact Nat.le_refl _) _ _ _ _⟩
end Go.Proofs.YtmknpehjncpekaaGreatDoor

/- The references' proofs: Way, Up. -/
namespace Go.Proofs.YtmknpehjncpekaaGreatDoor
open Go.RowKit Go.WideShapes
set_option linter.unusedVariables false
attribute [local go_sem ↓] Go.wp_at_zero Go.wp_at_succ

theorem OwnI.nil (w w' : World) : OwnI w w' (.slice .none 0 0) [] := own_nil _ _ _ _
theorem OwnI.lit (w : World) (z : Int) : OwnI w (w.alloc (.cells #[.int .i64 z] 3)) (.slice (some ⟨w.heap.size, 0, .none⟩) 1 1) [z] :=
  World.ownsRow_lit w #[.int .i64 z] 1 (Nat.le_refl _) (by simp [maxLen]) rfl
theorem OwnI.lower {w w1 w' : World} {v : Value} {ys : List Int} (h : OwnI w1 w' v ys) (e : w.heap.size ≤ w1.heap.size) : OwnI w w' v ys := own_lower h e

end Go.Proofs.YtmknpehjncpekaaGreatDoor

/- The references' proofs that a tree has but grown. -/
namespace Go.Proofs.YtmknpehjncpekaaGreatDoor
open Go.RowKit Go.WideShapes
set_option linter.unusedVariables false
attribute [local go_sem ↓] Go.wp_at_zero Go.wp_at_succ

set_option maxRecDepth 100000 in
set_option maxHeartbeats 1000000 in
theorem RGrowSteps_any (N : Nat) : ∀ (o n : Nat) (b : Bool) (w : World), n ≤ N → 1 ≤ o → o ≤ n → n ≤ 4096 →
    Calls Tryz.prog 45 #[.int .i64 o, .int .i64 n, .bool b] w fun e w' => e = .returned (.int .i64 (gsteps o n b : Nat)) ∧ w = w' := by
  induction N with
  | zero => intro o n b w h h1; omega
  | succ N ih =>
    intro o n b w hN h1 hon hn
    have IH := Lib.hid ih
    clear ih
    by_cases ho : o = n
    · subst ho
      cases b
      · have HS := Lib.hid (gsteps_part o)
        go_enter Tryz.func45, Tryz.ntmps45
        go_wp2_with fail
        go_ret
        exact ⟨ret_int (by rw [HS.out]; rfl), rfl⟩
      · have HS := Lib.hid (gsteps_whole o)
        go_enter Tryz.func45, Tryz.ntmps45
        go_wp2_with fail
        go_ret
        exact ⟨ret_int (by rw [HS.out]; rfl), rfl⟩
    · have h2 : 2 ≤ n := by omega
      have hk := half_lt h2 hn
      have hk0 := half_pos n
      have ho' : ((o : Int) == (n : Int)) = false := by simp; omega
      by_cases hok : o ≤ half n
      · have hS := gsteps_left b ho h2 hn hok
        have hb := gsteps_le (half n) o (half n) b (Nat.le_refl _) (by omega) (by omega)
        have hI := fun W => IH.out o (half n) b W (by omega) h1 hok (by omega)
        generalize gsteps o (half n) b = s at *
        have HS := Lib.hid hS
        have HI := Lib.hid hI
        have i1 : (o : Int) ≤ ((half n : Nat) : Int) := by omega
        clear hS hI ho IH
        go_enter Tryz.func45, Tryz.ntmps45
        go_wp2_with fail
        refine (RHalf_any n _ (by omega) hn).mono ?_
        rintro _ w' ⟨rfl, rfl⟩
        go_wp2_with fail
        refine (HI.out _).mono ?_
        rintro _ w' ⟨rfl, rfl⟩
        go_wp2_with fail
        go_ret
        exact ⟨ret_int (by rw [HS.out]; omega), rfl⟩
      · have hS := gsteps_right b ho h2 hn hok
        have hb := gsteps_le (n - half n) (o - half n) (n - half n) false (Nat.le_refl _) (by omega) (by omega)
        have hI := fun W => IH.out (o - half n) (n - half n) false W (by omega) (by omega) (by omega) (by omega)
        generalize gsteps (o - half n) (n - half n) false = s at *
        have HS := Lib.hid hS
        have HI := Lib.hid hI
        have i1 : ((half n : Nat) : Int) < (o : Int) := by omega
        have N1 : Hid ((o : Int) - ((half n : Nat) : Int) = ((o - half n : Nat) : Int)) := by show _ = _; omega
        have N2 : Hid ((n : Int) - ((half n : Nat) : Int) = ((n - half n : Nat) : Int)) := by show _ = _; omega
        clear hS hI ho IH hok
        go_enter Tryz.func45, Tryz.ntmps45
        go_wp2_with fail
        refine (RHalf_any n _ (by omega) hn).mono ?_
        rintro _ w' ⟨rfl, rfl⟩
        go_wp2_with fail
        rw [N1.out, N2.out]
        refine (HI.out _).mono ?_
        rintro _ w' ⟨rfl, rfl⟩
        go_wp2_with fail
        go_ret
        exact ⟨ret_int (by rw [HS.out]; omega), rfl⟩

set_option maxRecDepth 100000 in
set_option maxHeartbeats 2000000 in
theorem RGrown_any (N : Nat) : ∀ (r : Int) (o n : Nat) (A : Option Addr) (m c : Nat) (ps : List Int) (b : Bool) (w : World), n ≤ N → 1 ≤ o → o ≤ n → n ≤ 4096 → m = gsteps o n b → Rd w 1 A m c (ps.map (Value.int .i64)) → c ≤ maxLen → vld r = true → allV ps = true →
    Calls Tryz.prog 46 #[.int .i64 r, .int .i64 o, .int .i64 n, .slice A m c, .bool b] w fun e w' => e = .returned (.tuple #[.int .i64 (groots r o n ps b).1, .int .i64 (groots r o n ps b).2]) ∧ Ext w w' := by
  induction N with
  | zero => intro r o n A m c ps b w h h1; omega
  | succ N ih =>
    intro r o n A m c ps b w hN h1 hon hn hms hr hm hv hp
    have hx := hr.lenI
    have hl : m ≤ c := hr.2.1
    have IH := Lib.hid ih
    clear ih
    by_cases ho : o = n
    · subst ho
      cases b
      · rw [gsteps_part] at hms
        subst hms
        obtain ⟨x, rfl⟩ := List.length_eq_one_iff.1 hx
        have HS := Lib.hid (groots_part r o [x])
        obtain ⟨ad, rfl, hb, hcell⟩ := hr.getI (j := 0) (z := x) rfl
        rw [add_zero'] at hcell
        clear hx hr
        go_enter Tryz.func46, Tryz.ntmps46
        go_wp2_with fail
        go_quiet (fail)
        go_wp2_with fail
        go_ret2
        exact ⟨ret_two (by rw [HS.out]; rfl) (by rw [HS.out]; rfl), by (repeat (with_reducible first | exact Ext.refl _ | assumption | refine Ext.drew ?_ | refine Ext.drewN ?_ _ | refine Ext.alloc ?_ _ | refine Ext.trans ?_ (by with_reducible assumption)))⟩
      · rw [gsteps_whole] at hms
        have HS := Lib.hid (groots_whole r o ps)
        subst hms
        clear hx hr
        go_enter Tryz.func46, Tryz.ntmps46
        go_wp2_with fail
        go_ret2
        exact ⟨ret_two (by rw [HS.out]; rfl) (by rw [HS.out]; rfl), by (repeat (with_reducible first | exact Ext.refl _ | assumption | refine Ext.drew ?_ | refine Ext.drewN ?_ _ | refine Ext.alloc ?_ _ | refine Ext.trans ?_ (by with_reducible assumption)))⟩
    · have h2 : 2 ≤ n := by omega
      have hk := half_lt h2 hn
      have hk0 := half_pos n
      have ho' : ((o : Int) == (n : Int)) = false := by simp; omega
      by_cases hok : o ≤ half n
      · have hS := groots_left (r := r) (p := ps) b ho h2 hn hok
        obtain ⟨k, hmk⟩ : ∃ k, m = k + 1 := ⟨gsteps o (half n) b, by rw [hms, gsteps_left b ho h2 hn hok]⟩
        have hks : k = gsteps o (half n) b := by rw [gsteps_left b ho h2 hn hok] at hms; omega
        subst hmk
        have hlast := last_of hx
        have hvl := allV_get hp hlast
        rw [← init_of hx] at hS
        obtain ⟨ad, hA, hb, hcell⟩ := hr.getI hlast
        have R := hr.takeI (k := k) (by omega)
        have hvt := allV_take hp k
        have hgv := groots_vld (half n) r o (half n) (ps.take k) b (Nat.le_refl _) h1 hok (by omega) hv hvt (by rw [List.length_take, hx, ← hks]; omega)
        have hI := fun (W : World) (e : Ext w W) => IH.out r o (half n) A k c (ps.take k) b W (by omega) h1 hok (by omega) hks (R.ext e) hm hv hvt
        generalize groots r o (half n) (ps.take k) b = g at *
        obtain ⟨ga, gb⟩ := g
        generalize ps.getLastD 0 = z at *
        have HS := Lib.hid hS
        have HI := Lib.hid hI
        have HV := Lib.hid hgv.2
        have HVZ := Lib.hid hvl
        subst hA
        clear hx hms hlast hks hS hI IH ho hgv hvl
        unfold maxLen at hm
        have i1 : (o : Int) ≤ ((half n : Nat) : Int) := by omega
        go_enter Tryz.func46, Tryz.ntmps46
        go_wp2_with fail
        refine (RHalf_any n _ (by omega) hn).mono ?_
        rintro e w' ⟨rfl, rfl⟩
        go_wp2_with fail
        refine (HI.out _ (Ext.refl _)).mono ?_
        rintro _ w1 ⟨rfl, hb1⟩
        go_wp2_with fail
        refine (RNode_any _ _ _ HV.out HVZ.out).mono ?_
        rintro _ w2 ⟨rfl, hb2⟩
        go_wp2_with fail
        go_ret2
        exact ⟨ret_two (by rw [HS.out]; rfl) (by rw [HS.out]; rfl), by (repeat (with_reducible first | exact Ext.refl _ | assumption | refine Ext.drew ?_ | refine Ext.drewN ?_ _ | refine Ext.alloc ?_ _ | refine Ext.trans ?_ (by with_reducible assumption)))⟩
      · have hS := groots_right (r := r) (p := ps) b ho h2 hn hok
        obtain ⟨k, hmk⟩ : ∃ k, m = k + 1 := ⟨gsteps (o - half n) (n - half n) false, by rw [hms, gsteps_right b ho h2 hn hok]⟩
        have hks : k = gsteps (o - half n) (n - half n) false := by rw [gsteps_right b ho h2 hn hok] at hms; omega
        subst hmk
        have hlast := last_of hx
        have hvl := allV_get hp hlast
        rw [← init_of hx] at hS
        obtain ⟨ad, hA, hb, hcell⟩ := hr.getI hlast
        have R := hr.takeI (k := k) (by omega)
        have hvt := allV_take hp k
        have hgv := groots_vld (n - half n) r (o - half n) (n - half n) (ps.take k) false (Nat.le_refl _) (by omega) (by omega) (by omega) hv hvt (by rw [List.length_take, hx, ← hks]; omega)
        have hI := fun (W : World) (e : Ext w W) => IH.out r (o - half n) (n - half n) A k c (ps.take k) false W (by omega) (by omega) (by omega) (by omega) hks (R.ext e) hm hv hvt
        generalize groots r (o - half n) (n - half n) (ps.take k) false = g at *
        obtain ⟨ga, gb⟩ := g
        generalize ps.getLastD 0 = z at *
        have HS := Lib.hid hS
        have HI := Lib.hid hI
        have HVa := Lib.hid hgv.1
        have HVb := Lib.hid hgv.2
        have HVZ := Lib.hid hvl
        subst hA
        clear hx hms hlast hks hS hI IH ho hgv hvl
        unfold maxLen at hm
        have i1 : ((half n : Nat) : Int) < (o : Int) := by omega
        have N1 : Hid ((o : Int) - ((half n : Nat) : Int) = ((o - half n : Nat) : Int)) := by show _ = _; omega
        have N2 : Hid ((n : Int) - ((half n : Nat) : Int) = ((n - half n : Nat) : Int)) := by show _ = _; omega
        clear hok
        go_enter Tryz.func46, Tryz.ntmps46
        go_wp2_with fail
        refine (RHalf_any n _ (by omega) hn).mono ?_
        rintro e w' ⟨rfl, rfl⟩
        go_wp2_with fail
        rw [N1.out, N2.out]
        refine (HI.out _ (Ext.refl _)).mono ?_
        rintro _ w1 ⟨rfl, hb1⟩
        go_wp2_with fail
        refine (RNode_any _ _ _ HVZ.out HVa.out).mono ?_
        rintro _ w2 ⟨rfl, hb2⟩
        go_wp2_with fail
        refine (RNode_any _ _ _ HVZ.out HVb.out).mono ?_
        rintro _ w3 ⟨rfl, hb3⟩
        go_wp2_with fail
        go_ret2
        exact ⟨ret_two (by rw [HS.out]; rfl) (by rw [HS.out]; rfl), by (repeat (with_reducible first | exact Ext.refl _ | assumption | refine Ext.drew ?_ | refine Ext.drewN ?_ _ | refine Ext.alloc ?_ _ | refine Ext.trans ?_ (by with_reducible assumption)))⟩

set_option maxRecDepth 100000 in
set_option maxHeartbeats 2000000 in
theorem RGrow_any (N : Nat) : ∀ (A : Option Addr) (n c : Nat) (xs : List Int) (o : Nat) (b : Bool) (w : World), n ≤ N → Rd w 1 A n c (xs.map (Value.int .i64)) → c ≤ maxLen → 1 ≤ o → o ≤ n → n ≤ 4096 → allV xs = true →
    Calls Tryz.prog 21 #[.slice A n c, .int .i64 o, .bool b] w fun e w' => (∃ v, e = .returned v ∧ OwnI w w' v (growL xs o b)) ∧ Ext w w' := by
  induction N with
  | zero => intro A n c xs o b w hN hr hm h1 h2; omega
  | succ N ih =>
    intro A n c xs o b w hN hr hm h1 hon hn hv
    have hx := hr.lenI
    have hl : n ≤ c := hr.2.1
    have IH := Lib.hid ih
    clear ih
    by_cases ho : o = n
    · subst ho
      cases b
      · have HG := Lib.hid (growL_part hx.symm)
        clear hx
        go_enter Tryz.func21, Tryz.ntmps21
        go_wp2_with fail
        refine (RRoot_any o A o c xs _ (Nat.le_refl _) hr hm hn hv).mono ?_
        rintro _ w1 ⟨rfl, hb1⟩
        go_wp2_with fail
        go_ret
        exact ⟨⟨_, rfl, by rw [HG.out]; exact (OwnI.lit w1 _).lower hb1.size⟩, by (repeat (with_reducible first | exact Ext.refl _ | assumption | refine Ext.drew ?_ | refine Ext.drewN ?_ _ | refine Ext.alloc ?_ _ | refine Ext.trans ?_ (by with_reducible assumption)))⟩
      · have HG := Lib.hid (growL_whole hx.symm)
        clear hx
        go_enter Tryz.func21, Tryz.ntmps21
        go_wp2_with fail
        go_ret
        exact ⟨⟨_, rfl, by rw [HG.out]; exact own_nil _ _ _ _⟩, by (repeat (with_reducible first | exact Ext.refl _ | assumption | refine Ext.drew ?_ | refine Ext.drewN ?_ _ | refine Ext.alloc ?_ _ | refine Ext.trans ?_ (by with_reducible assumption)))⟩
    · have h2 : 2 ≤ n := by omega
      have hk := half_lt h2 hn
      have hk0 := half_pos n
      have ho' : ((o : Int) == (n : Int)) = false := by simp; omega
      unfold maxLen at hm
      have q1 : (half n : Int) ≤ (n : Int) := by omega
      have q2 : (half n : Int) ≤ (c : Int) := by omega
      have q3 : (n : Int) ≤ (c : Int) := by omega
      have R1 := hr.takeI (k := half n) (by omega)
      have R2 := hr.dropI' (k := half n) (by omega)
      have HX := Lib.hid hx
      obtain ⟨i0, hi0, hz0, hz1, hz2⟩ := info_parts info_int
      by_cases hok : o ≤ half n
      · have hlen := growL_len n (xs.take (half n)) o b (by rw [List.length_take]; omega) h1 (by rw [List.length_take]; omega) (by rw [List.length_take]; omega)
        rw [List.length_take, Nat.min_eq_left (by omega)] at hlen
        have hsl := gsteps_le (half n) o (half n) b (Nat.le_refl _) hk0 (by omega)
        have HG := Lib.hid (growL_left (xs := xs) (o := o) b (by omega) (by omega) (by omega) (by rw [hx]; exact hok))
        have HL : (growL (xs.take (half n)) o b).length ≤ 4096 := by omega
        have i1 : (o : Int) ≤ ((half n : Nat) : Int) := by omega
        clear hx hlen hsl ho
        go_enter Tryz.func21, Tryz.ntmps21
        go_wp2_with fail
        refine (RHalf_any n _ (by omega) hn).mono ?_
        rintro e w' ⟨rfl, rfl⟩
        go_wp2_with fail
        refine (IH.out A (half n) c (xs.take (half n)) o b _ (by omega) R1 (by simp only [maxLen]; omega) h1 hok (by omega) (allV_take hv (half n))).mono ?_
        rintro _ w1 ⟨⟨v1, rfl, own1⟩, hb1⟩
        have hs1 := hb1.size
        go_wp2_with fail
        refine (RRoot_any N _ _ _ (xs.drop (half n)) _ (by omega) (R2.ext hb1) (by simp only [maxLen]; omega) (by omega) (allV_drop hv (half n))).mono ?_
        rintro _ w2 ⟨rfl, hb2⟩
        have hs2 := hb2.size
        go_wp2_with (at_builtin; refine wpl_app (by rfl) _ _ _ (by rfl) w.heap.size 3 i0 _ 1 8 Tryz.underlying38 hi0 hz0 hz1 hz2 rfl (by omega) v1 _ _ (by rfl) ((own1.ext hb2).alloc _) w2.heap.size 1 [.int .i64 (ofL (xs.drop (half n)))] rfl (by rfl) (news_new w2 _ _ _ rfl) (oneI _) (by omega) (by omega) (by simp; omega) ?_; intro g cap w3 own3 hext3)
        go_ret
        exact ⟨⟨_, rfl, OwnI.mk own3 (by rw [HG.out, HX.out]; simp) (by rw [HG.out, HX.out]; simp)⟩, hext3 _ (Nat.le_refl _) (by (repeat (with_reducible first | exact Ext.refl _ | assumption | refine Ext.drew ?_ | refine Ext.drewN ?_ _ | refine Ext.alloc ?_ _ | refine Ext.trans ?_ (by with_reducible assumption))))⟩
      · have hlen := growL_len n (xs.drop (half n)) (o - half n) false (by rw [List.length_drop]; omega) (by omega) (by rw [List.length_drop]; omega) (by rw [List.length_drop]; omega)
        rw [List.length_drop, hx] at hlen
        have hsl := gsteps_le (n - half n) (o - half n) (n - half n) false (Nat.le_refl _) (by omega) (by omega)
        have HG := Lib.hid (growL_right (xs := xs) (o := o) b (by omega) (by omega) (by omega) (by rw [hx]; exact hok))
        have HL : (growL (xs.drop (half n)) (o - half n) false).length ≤ 4096 := by omega
        have i1 : ((half n : Nat) : Int) < (o : Int) := by omega
        have N1 : Hid ((o : Int) - ((half n : Nat) : Int) = ((o - half n : Nat) : Int)) := by show _ = _; omega
        clear hx hlen hsl ho hok
        go_enter Tryz.func21, Tryz.ntmps21
        go_wp2_with fail
        refine (RHalf_any n _ (by omega) hn).mono ?_
        rintro e w' ⟨rfl, rfl⟩
        go_wp2_with fail
        rw [N1.out]
        refine (IH.out _ (n - half n) _ (xs.drop (half n)) (o - half n) false _ (by omega) R2 (by simp only [maxLen]; omega) (by omega) (by omega) (by omega) (allV_drop hv (half n))).mono ?_
        rintro _ w1 ⟨⟨v1, rfl, own1⟩, hb1⟩
        have hs1 := hb1.size
        go_wp2_with fail
        refine (RRoot_any N _ _ _ (xs.take (half n)) _ (by omega) (R1.ext hb1) (by simp only [maxLen]; omega) (by omega) (allV_take hv (half n))).mono ?_
        rintro _ w2 ⟨rfl, hb2⟩
        have hs2 := hb2.size
        go_wp2_with (at_builtin; refine wpl_app (by rfl) _ _ _ (by rfl) w.heap.size 3 i0 _ 1 8 Tryz.underlying38 hi0 hz0 hz1 hz2 rfl (by omega) v1 _ _ (by rfl) ((own1.ext hb2).alloc _) w2.heap.size 1 [.int .i64 (ofL (xs.take (half n)))] rfl (by rfl) (news_new w2 _ _ _ rfl) (oneI _) (by omega) (by omega) (by simp; omega) ?_; intro g cap w3 own3 hext3)
        go_ret
        exact ⟨⟨_, rfl, OwnI.mk own3 (by rw [HG.out, HX.out]; simp) (by rw [HG.out, HX.out]; simp)⟩, hext3 _ (Nat.le_refl _) (by (repeat (with_reducible first | exact Ext.refl _ | assumption | refine Ext.drew ?_ | refine Ext.drewN ?_ _ | refine Ext.alloc ?_ _ | refine Ext.trans ?_ (by with_reducible assumption))))⟩
end Go.Proofs.YtmknpehjncpekaaGreatDoor
