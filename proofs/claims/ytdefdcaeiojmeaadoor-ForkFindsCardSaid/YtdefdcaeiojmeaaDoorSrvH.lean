/- serve.Head. -/
import Derived.Test.YtdefdcaeiojmeaaDoorSgn
import Derived.Test.YtdefdcaeiojmeaaDoorForkP
import Derived.Test.YtdefdcaeiojmeaaDoorTree
namespace Go.Proofs.YtdefdcaeiojmeaaDoor
open Go.RowKit Go.WideShapes
set_option linter.unusedVariables false
attribute [local go_sem ↓] Go.wp_at_zero Go.wp_at_succ

/-- the head of a log: what is wrong -/
def shK (es : List Ent) (key now : Int) : Int := if entsErr es ≠ 0 then entsErr es else sgnK (lgB es.length (ofL (es.map Ent.leaf)) now) key
def shH (es : List Ent) (key now : Int) : Hd := if entsErr es ≠ 0 then ⟨0, 0, 0, 0⟩ else sgnH (lgB es.length (ofL (es.map Ent.leaf)) now) key

set_option maxRecDepth 100000 in
set_option maxHeartbeats 1000000 in
theorem SHead_any (A : Option Addr) (n c : Nat) (es : List Ent) (key now : Int) (w : World) (hr : Rd w 2 A n c (es.flatMap Ent.cells)) (hm : c ≤ maxLen) (hD : DebG w) (hP : PowG w) :
    Calls Tryd.prog 6 #[.slice A n c, .int .i64 key, .int .i64 now] w fun e w' => e = .returned (.tuple #[(shH es key now).val, errR (shK es key now)]) ∧ Ext w w' := by
  obtain ⟨hE, hN, hG0⟩ := errR_rules
  have hx := hr.lenE
  by_cases hk : entsOk es
  · have hn : n ≤ 200 := by have := hk.1; omega
    have hsk : shK es key now = sgnK (lgB n (ofL (es.map Ent.leaf)) now) key := by unfold shK; rw [if_neg (not_not_intro (entsErr_ok hk)), hx]
    have hsh : shH es key now = sgnH (lgB n (ofL (es.map Ent.leaf)) now) key := by unfold shH; rw [if_neg (not_not_intro (entsErr_ok hk)), hx]
    have hlo := leafs_of_ents hk
    have HL := Lib.hid (Leafs_ok A n c es)
    rw [hx] at HL
    rw [hsk, hsh]
    obtain ⟨xs, hxs⟩ : ∃ xs, es.map Ent.leaf = xs := ⟨_, rfl⟩
    rw [hxs] at hlo HL ⊢
    have HLO := Lib.hid hlo.2
    have HS := Lib.hid fun W (e : Ext w W) => Sign_any (lgB n (ofL xs) now) key W (hD.ext e) (hP.ext e)
    obtain ⟨zk, hzk⟩ : ∃ v, sgnK (lgB n (ofL xs) now) key = v := ⟨_, rfl⟩
    obtain ⟨zh, hzh⟩ : ∃ v, sgnH (lgB n (ofL xs) now) key = v := ⟨_, rfl⟩
    rw [hzk, hzh] at HS ⊢
    obtain ⟨r, hr2⟩ : ∃ v, ofL xs = v := ⟨_, rfl⟩
    have HO := Lib.hid hr2
    rw [hr2] at HS
    have HK := Lib.hid hk
    have B0 := Bk.at_ w 31 #[.int .i64 0, .int .i64 0, .int .i64 0, .int .i64 0] w.heap.size rfl
    have e0 : Ext w (w.alloc (.cells #[.int .i64 0, .int .i64 0, .int .i64 0, .int .i64 0] 31)) := by (repeat (with_reducible first | exact Ext.refl _ | assumption | refine Ext.drew ?_ | refine Ext.drewN ?_ _ | refine Ext.alloc ?_ _ | refine Ext.trans ?_ (by with_reducible assumption)))
    have HR := Lib.hid hr
    clear hzk hzh hr2 hxs hsk hsh hk hlo hx hD hP hr
    obtain ⟨z0, z1, z2, z3⟩ := zh
    simp only [Hd.val, lgB] at *
    go_enter Tryd.func6, Tryd.ntmps6
    go_upto_region 1 with (fail)
    generalize (w.alloc (.cells #[.int .i64 0, .int .i64 0, .int .i64 0, .int .i64 0] 31)) = W0 at *
    obtain ⟨g0, hg0⟩ : ∃ g, w.heap.size = g := ⟨_, rfl⟩
    rw [hg0] at B0
    try rw [hg0]
    have HG := Lib.hid hg0
    have HE0 := Lib.hid e0
    clear e0 hg0
    go_wp2_with fail
    refine (HL.out W0 (HR.out.ext HE0.out) hm HK.out).mono ?_
    rintro _ w1 ⟨⟨v1, rfl, own1⟩, hb1⟩
    obtain ⟨A1, c1, rfl, hc1, R1, _⟩ := own_rd own1
    have HR1 := Lib.hid R1
    have HE1 := Lib.hid (HE0.out.trans hb1)
    have B1 := B0.ext hb1
    clear own1 R1 hb1 HE0 B0
    go_wp2_with fail
    refine (Of_any n A1 n c1 xs _ (Nat.le_refl _) HR1.out hc1 (by omega) HLO.out).mono ?_
    rw [HO.out]
    rintro _ w2 ⟨rfl, hb2⟩
    have HE2 := Lib.hid (HE1.out.trans hb2)
    have B2 := B1.ext hb2
    clear hb2 HE1 B1 HR1
    go_wp2_with fail
    refine (HS.out _ HE2.out).mono ?_
    rintro _ w3 ⟨rfl, hb3⟩
    have HE3 := Lib.hid (HE2.out.trans hb3)
    have B3 := B2.ext hb3
    clear hb3 HE2 B2
    have q0 := B3.frozen 0
    have q1 := B3.frozen 1
    have q2 := B3.frozen 2
    have q3 := B3.frozen 3
    have y0 := B3.cell 0
    have y1 := B3.cell 1
    have y2 := B3.cell 2
    have y3 := B3.cell 3
    go_wp2_with fail
    have P := B3.put4 (.int .i64 z0) (.int .i64 z1) (.int .i64 z2) (.int .i64 z3)
    have p0 := P.cell 0
    have p1 := P.cell 1
    have p2 := P.cell 2
    have p3 := P.cell 3
    refine bodyPost_ret (by simp [results, Tryd.results6, go_sem, p0, p1, p2, p3]; try rfl) rfl ?_
    exact ⟨rfl, HE3.out.put4 (by rw [HG.out]; exact Nat.le_refl _) _ _ _ _⟩
  · have hne := entsErr_bad hk
    have hsk : shK es key now = entsErr es := by unfold shK; rw [if_pos hne]
    have hsh : shH es key now = ⟨0, 0, 0, 0⟩ := by unfold shH; rw [if_pos hne]
    have HL := Lib.hid (Leafs_bad A n c es)
    rw [hsk, hsh]
    obtain ⟨zk, hzk⟩ : ∃ v, entsErr es = v := ⟨_, rfl⟩
    rw [hzk] at HL hne ⊢
    have hok := isOk_no hne
    rw [errR_ne hne]
    have HK := Lib.hid hk
    have B0 := Bk.at_ w 31 #[.int .i64 0, .int .i64 0, .int .i64 0, .int .i64 0] w.heap.size rfl
    have e0 : Ext w (w.alloc (.cells #[.int .i64 0, .int .i64 0, .int .i64 0, .int .i64 0] 31)) := by (repeat (with_reducible first | exact Ext.refl _ | assumption | refine Ext.drew ?_ | refine Ext.drewN ?_ _ | refine Ext.alloc ?_ _ | refine Ext.trans ?_ (by with_reducible assumption)))
    have HR := Lib.hid hr
    clear hzk hsk hsh hk hx hD hP hr hne
    simp only [Hd.val] at *
    go_enter Tryd.func6, Tryd.ntmps6
    go_upto_region 1 with (fail)
    generalize (w.alloc (.cells #[.int .i64 0, .int .i64 0, .int .i64 0, .int .i64 0] 31)) = W0 at *
    obtain ⟨g0, hg0⟩ : ∃ g, w.heap.size = g := ⟨_, rfl⟩
    rw [hg0] at B0
    try rw [hg0]
    have HG := Lib.hid hg0
    have HE0 := Lib.hid e0
    clear e0 hg0
    go_wp2_with fail
    refine (HL.out W0 (HR.out.ext HE0.out) hm HK.out).mono ?_
    rintro _ w1 ⟨rfl, hb1⟩
    have HE3 := Lib.hid (HE0.out.trans hb1)
    have B3 := B0.ext hb1
    simp only [errV]
    have q0 := B3.frozen 0
    have q1 := B3.frozen 1
    have q2 := B3.frozen 2
    have q3 := B3.frozen 3
    have y0 := B3.cell 0
    have y1 := B3.cell 1
    have y2 := B3.cell 2
    have y3 := B3.cell 3
    clear hb1 B0
    go_wp2_with fail
    have P := B3.put4 (.int .i64 0) (.int .i64 0) (.int .i64 0) (.int .i64 0)
    have p0 := P.cell 0
    have p1 := P.cell 1
    have p2 := P.cell 2
    have p3 := P.cell 3
    refine bodyPost_ret (by simp [results, Tryd.results6, go_sem, p0, p1, p2, p3]; try rfl) rfl ?_
    exact ⟨rfl, HE3.out.put4 (by rw [HG.out]; exact Nat.le_refl _) _ _ _ _⟩
/-- the head that serve tells -/
theorem sh_parts {es : List Ent} {key now : Int} (h : shK es key now = 0) : entsOk es ∧ shH es key now = ⟨(es.length : Int), ofL (es.map Ent.leaf), now, signI (lgB es.length (ofL (es.map Ent.leaf)) now) key⟩ ∧ verK (shH es key now) key = 0 ∧ keyI key = true := by
  have hk : entsOk es := Classical.byContradiction fun hn => by
    have h1 := entsErr_bad hn
    unfold shK at h
    rw [if_pos h1] at h
    exact h1 h
  have h0 := entsErr_ok hk
  have hs : sgnK (lgB es.length (ofL (es.map Ent.leaf)) now) key = 0 := by
    unfold shK at h
    rwa [if_neg (not_not_intro h0)] at h
  have hh : shH es key now = sgnH (lgB es.length (ofL (es.map Ent.leaf)) now) key := by unfold shH; rw [if_neg (not_not_intro h0)]
  obtain ⟨a1, a2, a3, a4⟩ := sgn_ver hs
  exact ⟨hk, hh.trans a4, by rw [hh]; exact a1, a2⟩
end Go.Proofs.YtdefdcaeiojmeaaDoor
