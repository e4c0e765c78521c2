/- the references' desk: a step. -/
import Derived.Test.YtnphbkjkeipmmaaGreatDoorJRunBegins23
import Derived.Test.YtnphbkjkeipmmaaGreatDoorJRunAnswers5
import Derived.Test.YtnphbkjkeipmmaaGreatDoorJRunBegins28
import Derived.Test.YtnphbkjkeipmmaaGreatDoorJRunBegins29
import Derived.Test.YtnphbkjkeipmmaaGreatDoorJRunBegins10
namespace Go.Proofs.YtnphbkjkeipmmaaGreatDoor
open Go.RowKit Go.WideShapes
set_option linter.unusedVariables false
attribute [local go_sem ↓] Go.wp_at_zero Go.wp_at_succ

theorem sent_1 {d : Dk} (h : d.Good) (hw : d.m.want = ⟨1, 0, 0⟩) (bad : Bool) : sentR d bad = ⟨1, if bad then spoilH (shH d.es 7 0) else shH d.es 7 0, [], []⟩ := by
  unfold sentR
  rw [reply_1 h hw]
  cases bad
  · rfl
  · rfl
theorem sent_2 {d : Dk} (h : d.Good) {a b : Nat} (hw : d.m.want = ⟨2, (a : Int), (b : Int)⟩) (bad : Bool) : sentR d bad = ⟨2, hd00, if bad then spoilE ((d.es.take b).drop a) else (d.es.take b).drop a, []⟩ := by
  unfold sentR
  rw [reply_2 h hw]
  cases bad
  · rfl
  · rfl
theorem sent_3 {d : Dk} (h : d.Good) {o t : Nat} (hw : d.m.want = ⟨3, (o : Int), (t : Int)⟩) (bad : Bool) : sentR d bad = ⟨3, hd00, [], if bad then spoilP (gmV (d.es.map Ent.leaf) o t) else gmV (d.es.map Ent.leaf) o t⟩ := by
  unfold sentR
  rw [reply_3 h hw]
  cases bad
  · rfl
  · rfl
/-- what a step of the references' desk leaves -/
def RSt (S : Nat → Prop) (db : Nat) (d : Dk) (bad : Bool) (w : World) (e : Ending) (w' : World) : Prop := e = .returned (.int .i64 (d.m.hear (sentR d bad)).2) ∧ DOp 33 31 w S db { d with m := (d.m.hear (sentR d bad)).1 } w'
theorem hear_R {S : Nat → Prop} {db mb : Nat} {ve va vw : Value} {d : Dk} {w W : World} (h1 : DAt 33 31 w db ve mb va vw d) (h2 : ∀ g, DFoot db ve mb va vw g → S g) (hN : ∀ g, w.heap.size ≤ g → S g) (e : Ext w W)
    (r : Rp) {A A' : Option Addr} {n c n' c' : Nat} (hr : Rd W 2 A n c (r.ents.flatMap Ent.cells)) (hm : c ≤ maxLen) (hr' : Rd W 1 A' n' c' (r.proof.map (Value.int .i64))) (hm' : c' ≤ maxLen) (hgd : ({ d with m := (d.m.hear r).1 } : Dk).Good) :
    Calls Tryz.prog 38 #[.pointer (some ⟨mb, 0, none⟩), replyV r.what r.head A n c A' n' c'] W fun x w' => x = .returned (.int .i64 (d.m.hear r).2) ∧ DOp 33 31 w S db { d with m := (d.m.hear r).1 } w' := by
  have h3 := h1.ext e
  refine (RHear_any (MSet W mb va vw) mb d.m r A n c A' n' c' W h3.mm (fun g hg => .inr hg) hr hm hr' hm').mono fun x w' ⟨q1, q2, q3⟩ => ⟨q1, ?_⟩
  exact (show DOp _ _ W S db _ w' from h3.heard h2 (fun g hg => hN g (Nat.le_trans e.size hg)) q2 q3 hgd).from_ e
theorem flatE_tk : ∀ (es : List Ent) (k : Nat), (es.flatMap Ent.cells).take (k * 2) = (es.take k).flatMap Ent.cells
  | [], k => by simp
  | e :: es, 0 => by simp
  | e :: es, k + 1 => by
    rw [List.flatMap_cons, List.take_succ_cons, List.flatMap_cons, ← flatE_tk es k, show (k + 1) * 2 = k * 2 + 2 by omega]
    rfl
theorem RdE_tk {w : World} {A : Option Addr} {n c k : Nat} {es : List Ent} (h : Rd w 2 A n c (es.flatMap Ent.cells)) (hk : k ≤ n) : Rd w 2 A k c ((es.take k).flatMap Ent.cells) := by
  have := h.take hk
  rwa [flatE_tk] at this
set_option maxRecDepth 100000 in
set_option maxHeartbeats 8000000 in
theorem RStep_1 (S : Nat → Prop) (db mb : Nat) (ve va vw : Value) (d : Dk) (bad : Bool) (w : World) (h : DAt 33 31 w db ve mb va vw d) (h2 : ∀ g, DFoot db ve mb va vw g → S g) (hS : ∀ g, w.heap.size ≤ g → S g) (hw : d.m.want = ⟨1, 0, 0⟩) :
    Calls Tryz.prog 18 #[.pointer (some ⟨db, 0, none⟩), .bool bad] w (RSt S db d bad w) := by
  have hgd := stepD_good h.good bad
  rw [stepD_ok h.good] at hgd
  dsimp only at hgd
  have hsr := sent_1 h.good hw bad
  unfold RSt
  have HHR := Lib.hid fun W (e : Ext w W) A n c A' n' c' hr hm hr' hm' => hear_R (S := S) h h2 hS e (sentR d bad) (A := A) (n := n) (c := c) (A' := A') (n' := n') (c' := c') hr hm hr' hm' hgd
  have HMW : Hid (∀ W, Ext w W → Calls Tryz.prog 17 #[.pointer (some ⟨mb, 0, none⟩)] W fun e w' => e = .returned d.m.want.val ∧ Ext W w') := Lib.hid fun W e => RMWant_any mb va vw d.m W (h.ext e).mir
  rw [hw] at HMW
  simp only [Wt.val] at HMW
  have HSR := Lib.hid hsr
  obtain ⟨A, c, hva, hc1, hrd, -⟩ := own_rd h.own
  have H1 := Lib.hid h
  have hk := shK_ok h.good.es
  have HLH : Hid (∀ W, Ext w W → Calls Tryz.prog 35 #[.slice A d.es.length c, .int .i64 7, .int .i64 0] W fun e w' => e = .returned (.tuple #[(shH d.es 7 0).val, .int .i64 0]) ∧ Ext W w') := Lib.hid fun W e => by
    have := LogHead_any A d.es.length c d.es 7 0 W (hrd.ext e) hc1
    rw [hk] at this
    exact this
  obtain ⟨_, _, hv, _⟩ := sh_parts hk
  obtain ⟨_, hok, _⟩ := verK_zero hv
  obtain ⟨_, _, _, _, hro, _⟩ := Hd.ok_parts hok
  have hzr := vld_true hro
  obtain ⟨zh, hzh⟩ : ∃ x, shH d.es 7 0 = x := ⟨_, rfl⟩
  rw [hzh] at HLH HSR hzr
  obtain ⟨q0, q1, q2, q3⟩ := zh
  simp only [Hd.val] at HLH
  dsimp only at hzr
  have hwr : IntKind.i64.wrap (q1 - 1) = q1 - 1 := IntWalk.i64_in _ (by omega)
  obtain ⟨n, hn⟩ : ∃ n, d.es.length = n := ⟨_, rfl⟩
  rw [hn] at HLH hva
  have HVA := Lib.hid hva
  clear hva hc1 hrd hk hv hok hro hzh hn h h2 hS hgd hsr hw
  go_enter Tryz.func18, Tryz.ntmps18
  have y1 : w.cell? ⟨db, 1, none⟩ = some (.pointer (some ⟨mb, 0, none⟩)) := H1.out.bk.cell 1
  go_wp2_with fail
  refine (HMW.out _ (Ext.refl _)).mono ?_
  rintro _ w1 ⟨rfl, hb1⟩
  have B6 := (Bk.at_ w1 60 #[.int .i64 1, .int .i64 0, .int .i64 0] w1.heap.size rfl).alloc (.cells #[.int .i64 1, .int .i64 0, .int .i64 0, .int .i64 0, .int .i64 0, .slice none 0 0, .slice none 0 0] 87)
  have B9 := Bk.at_ (w1.alloc (.cells #[.int .i64 1, .int .i64 0, .int .i64 0] 60)) 87 #[.int .i64 1, .int .i64 0, .int .i64 0, .int .i64 0, .int .i64 0, .slice none 0 0, .slice none 0 0] (w1.heap.size + 1) (by simp)
  have e0 : Ext w ((w1.alloc (.cells #[.int .i64 1, .int .i64 0, .int .i64 0] 60)).alloc (.cells #[.int .i64 1, .int .i64 0, .int .i64 0, .int .i64 0, .int .i64 0, .slice none 0 0, .slice none 0 0] 87)) := (hb1.alloc _).alloc _
  have hg0 : w.heap.size ≤ w1.heap.size := hb1.size
  go_upto_region 5 with (fail)
  generalize ((w1.alloc (.cells #[.int .i64 1, .int .i64 0, .int .i64 0] 60)).alloc (.cells #[.int .i64 1, .int .i64 0, .int .i64 0, .int .i64 0, .int .i64 0, .slice none 0 0, .slice none 0 0] 87)) = W0 at *
  generalize w1.heap.size = g0 at *
  have HG := Lib.hid hg0
  have HE0 := Lib.hid e0
  have HB6 := Lib.hid B6
  have HB9 := Lib.hid B9
  clear hg0 e0 B6 B9 hb1 y1 HMW
  have b0 : W0.cell? ⟨db, 0, none⟩ = some (.slice A n c) := by rw [← HVA.out]; exact (H1.out.ext HE0.out).bk.cell 0
  go_wp2_with fail
  refine (HLH.out _ HE0.out).mono ?_
  rintro _ wl ⟨rfl, hb2⟩
  have BH := Bk.at_ wl 29 #[.int .i64 q0, .int .i64 q1, .int .i64 q2, .int .i64 q3] wl.heap.size rfl
  have e2 : Ext W0 (wl.alloc (.cells #[.int .i64 q0, .int .i64 q1, .int .i64 q2, .int .i64 q3] 29)) := hb2.alloc _
  have hlt := HB9.out.lt
  have hsz := hb2.size
  go_upto_region 8 with (fail)
  generalize wl.alloc (.cells #[.int .i64 q0, .int .i64 q1, .int .i64 q2, .int .i64 q3] 29) = w2 at *
  generalize wl.heap.size = gh at *
  have v0 := BH.cell 0
  have v1 := BH.cell 1
  have v2 := BH.cell 2
  have v3 := BH.cell 3
  have B9 := HB9.out.ext e2
  have x1 := B9.cell 1
  have x2 := B9.cell 2
  have x3 := B9.cell 3
  have x4 := B9.cell 4
  have f1 := B9.frozen 1
  have f2 := B9.frozen 2
  have f3 := B9.frozen 3
  have f4 := B9.frozen 4
  have C9 : Bk ((((w2.setCell ⟨g0 + 1, 1, none⟩ (.int .i64 q0)).setCell ⟨g0 + 1, 2, none⟩ (.int .i64 q1)).setCell ⟨g0 + 1, 3, none⟩ (.int .i64 q2)).setCell ⟨g0 + 1, 4, none⟩ (.int .i64 q3)) (g0 + 1) 87 #[.int .i64 1, .int .i64 q0, .int .i64 q1, .int .i64 q2, .int .i64 q3, .slice none 0 0, .slice none 0 0] := (((B9.set_ 1 _).set_ 2 _).set_ 3 _).set_ 4 _
  have E9 : Ext w ((((w2.setCell ⟨g0 + 1, 1, none⟩ (.int .i64 q0)).setCell ⟨g0 + 1, 2, none⟩ (.int .i64 q1)).setCell ⟨g0 + 1, 3, none⟩ (.int .i64 q2)).setCell ⟨g0 + 1, 4, none⟩ (.int .i64 q3)) := ((((HE0.out.trans e2).setCell (by have := HG.out; show _ ≤ g0 + 1; omega) _).setCell (by have := HG.out; show _ ≤ g0 + 1; omega) _).setCell (by have := HG.out; show _ ≤ g0 + 1; omega) _).setCell (by have := HG.out; show _ ≤ g0 + 1; omega) _
  have HC9 := Lib.hid C9
  have HE9 := Lib.hid E9
  clear hb2 e2 B9 C9 E9 HB6 HB9 BH hlt hsz
  go_upto_if 35 with (fail)
  generalize ((((w2.setCell ⟨g0 + 1, 1, none⟩ (.int .i64 q0)).setCell ⟨g0 + 1, 2, none⟩ (.int .i64 q1)).setCell ⟨g0 + 1, 3, none⟩ (.int .i64 q2)).setCell ⟨g0 + 1, 4, none⟩ (.int .i64 q3)) = W3 at *
  clear x1 x2 x3 x4 f1 f2 f3 f4 v0 v1 v2 v3 b0
  cases bad with
  | false =>
    have HF : Hid (sentR d false = ⟨1, ⟨q0, q1, q2, q3⟩, [], []⟩) := Lib.hid (HSR.out.trans rfl)
    have hh2 := HHR.out
    rw [HF.out] at hh2
    dsimp only at hh2
    have HH2 := Lib.hid hh2
    clear hh2
    have z0 := HC9.out.cell 0
    have z1 := HC9.out.cell 1
    have z2 := HC9.out.cell 2
    have z3 := HC9.out.cell 3
    have z4 := HC9.out.cell 4
    have z5 := HC9.out.cell 5
    have z6 := HC9.out.cell 6
    have yd : W3.cell? ⟨db, 1, none⟩ = some (.pointer (some ⟨mb, 0, none⟩)) := (H1.out.ext HE9.out).bk.cell 1
    go_wp2_with fail
    go_region_with (first
      | (go_at_call 38; refine (HH2.out _ (HE9.out.trans ?_) none 0 0 none 0 0 (Rd.nil _ _ _ _) (Nat.zero_le _) (Rd.nil _ _ _ _) (Nat.zero_le _)).mono ?_; (focus ((repeat (with_reducible first | exact Ext.refl _ | assumption | refine Ext.drew ?_ | refine Ext.drewN ?_ _ | refine Ext.alloc ?_ _ | refine Ext.trans ?_ (by with_reducible assumption))); done)); rintro _ w5 ⟨rfl, hop⟩; have HOP := Lib.hid hop; clear hop)
      | fail)
    all_goals
      go_wp2_with fail
      go_ret
      rw [HF.out]
      exact ⟨rfl, HOP.out.ext (by (repeat (with_reducible first | exact Ext.refl _ | assumption | refine Ext.drew ?_ | refine Ext.drewN ?_ _ | refine Ext.alloc ?_ _ | refine Ext.trans ?_ (by with_reducible assumption))))⟩
  | true =>
    have hsp : sentR d true = ⟨1, ⟨q0, if q1 - 1 < 0 then 1 else q1 - 1, q2, q3⟩, [], []⟩ := HSR.out.trans rfl
    have x2 := HC9.out.cell 2
    have f2 := HC9.out.frozen 2
    have C1 := HC9.out.set_ 2 (.int .i64 (q1 - 1))
    have E1 := HE9.out.setCell (p := ⟨g0 + 1, 2, none⟩) (by have := HG.out; show _ ≤ g0 + 1; omega) (.int .i64 (q1 - 1))
    have HC1 := Lib.hid C1
    have HE1 := Lib.hid E1
    clear C1 E1 HC9 HE9
    go_upto_region 11 with (fail)
    generalize W3.setCell ⟨g0 + 1, 2, none⟩ (.int .i64 (q1 - 1)) = W4 at *
    clear x2 f2
    have x2 := HC1.out.cell 2
    have f2 := HC1.out.frozen 2
    by_cases hl : q1 - 1 < 0
    · rw [if_pos hl] at hsp
      have HSP := Lib.hid hsp
      clear hsp
      have HF : Hid (sentR d true = ⟨1, ⟨q0, 1, q2, q3⟩, [], []⟩) := Lib.hid (HSP.out)
      have hh2 := HHR.out
      rw [HF.out] at hh2
      dsimp only at hh2
      have HH2 := Lib.hid hh2
      clear hh2
      have C2 := HC1.out.set_ 2 (.int .i64 1)
      have E2 := HE1.out.setCell (p := ⟨g0 + 1, 2, none⟩) (by have := HG.out; show _ ≤ g0 + 1; omega) (.int .i64 1)
      have HC2 := Lib.hid C2
      have HE2 := Lib.hid E2
      clear C2 E2 HC1 HE1
      go_upto_region 25 with (fail)
      generalize W4.setCell ⟨g0 + 1, 2, none⟩ (.int .i64 1) = W5 at *
      clear x2 f2
      have z0 := HC2.out.cell 0
      have z1 := HC2.out.cell 1
      have z2 := HC2.out.cell 2
      have z3 := HC2.out.cell 3
      have z4 := HC2.out.cell 4
      have z5 := HC2.out.cell 5
      have z6 := HC2.out.cell 6
      have yd : W5.cell? ⟨db, 1, none⟩ = some (.pointer (some ⟨mb, 0, none⟩)) := (H1.out.ext HE2.out).bk.cell 1
      go_wp2_with fail
      go_region_with (first
        | (go_at_call 38; refine (HH2.out _ (HE2.out.trans ?_) none 0 0 none 0 0 (Rd.nil _ _ _ _) (Nat.zero_le _) (Rd.nil _ _ _ _) (Nat.zero_le _)).mono ?_; (focus ((repeat (with_reducible first | exact Ext.refl _ | assumption | refine Ext.drew ?_ | refine Ext.drewN ?_ _ | refine Ext.alloc ?_ _ | refine Ext.trans ?_ (by with_reducible assumption))); done)); rintro _ w5 ⟨rfl, hop⟩; have HOP := Lib.hid hop; clear hop)
        | fail)
      all_goals
        go_wp2_with fail
        go_ret
        rw [HF.out]
        exact ⟨rfl, HOP.out.ext (by (repeat (with_reducible first | exact Ext.refl _ | assumption | refine Ext.drew ?_ | refine Ext.drewN ?_ _ | refine Ext.alloc ?_ _ | refine Ext.trans ?_ (by with_reducible assumption))))⟩
    · rw [if_neg hl] at hsp
      have HSP := Lib.hid hsp
      clear hsp
      have HF : Hid (sentR d true = ⟨1, ⟨q0, q1 - 1, q2, q3⟩, [], []⟩) := Lib.hid (HSP.out)
      have hh2 := HHR.out
      rw [HF.out] at hh2
      dsimp only at hh2
      have HH2 := Lib.hid hh2
      clear hh2
      go_upto_region 25 with (fail)
      clear x2 f2
      have z0 := HC1.out.cell 0
      have z1 := HC1.out.cell 1
      have z2 := HC1.out.cell 2
      have z3 := HC1.out.cell 3
      have z4 := HC1.out.cell 4
      have z5 := HC1.out.cell 5
      have z6 := HC1.out.cell 6
      have yd : W4.cell? ⟨db, 1, none⟩ = some (.pointer (some ⟨mb, 0, none⟩)) := (H1.out.ext HE1.out).bk.cell 1
      go_wp2_with fail
      go_region_with (first
        | (go_at_call 38; refine (HH2.out _ (HE1.out.trans ?_) none 0 0 none 0 0 (Rd.nil _ _ _ _) (Nat.zero_le _) (Rd.nil _ _ _ _) (Nat.zero_le _)).mono ?_; (focus ((repeat (with_reducible first | exact Ext.refl _ | assumption | refine Ext.drew ?_ | refine Ext.drewN ?_ _ | refine Ext.alloc ?_ _ | refine Ext.trans ?_ (by with_reducible assumption))); done)); rintro _ w5 ⟨rfl, hop⟩; have HOP := Lib.hid hop; clear hop)
        | fail)
      all_goals
        go_wp2_with fail
        go_ret
        rw [HF.out]
        exact ⟨rfl, HOP.out.ext (by (repeat (with_reducible first | exact Ext.refl _ | assumption | refine Ext.drew ?_ | refine Ext.drewN ?_ _ | refine Ext.alloc ?_ _ | refine Ext.trans ?_ (by with_reducible assumption))))⟩
end Go.Proofs.YtnphbkjkeipmmaaGreatDoor
