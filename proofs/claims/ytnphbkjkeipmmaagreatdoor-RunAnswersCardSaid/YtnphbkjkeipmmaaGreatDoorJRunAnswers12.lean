/- the references' desk: a line. -/
import Derived.Test.YtnphbkjkeipmmaaGreatDoorJRunAnswers9
import Derived.Test.YtnphbkjkeipmmaaGreatDoorJRunAnswers10
import Derived.Test.YtnphbkjkeipmmaaGreatDoorJRunAnswers11
import Derived.Test.YtnphbkjkeipmmaaGreatDoorJRunBegins30
import Derived.Test.YtnphbkjkeipmmaaGreatDoorJRunBegins28
import Derived.Test.YtnphbkjkeipmmaaGreatDoorJRunBegins11
namespace Go.Proofs.YtnphbkjkeipmmaaGreatDoor
open Go.RowKit Go.WideShapes
set_option linter.unusedVariables false
attribute [local go_sem ↓] Go.wp_at_zero Go.wp_at_succ

/-- what a line of the references' desk leaves -/
def RLn (S : Nat → Prop) (db : Nat) (o : Out) (d' : Dk) (w : World) (e : Ending) (w' : World) : Prop := e = .returned (.string (outT o)) ∧ DOp 33 31 w S db d' w'
theorem out_none (x : ByteArray) : outT (x, none) = badT := rfl
theorem out_ok (x : ByteArray) : outT (x, some 0) = x := by unfold outT; dsimp only; rw [if_pos rfl]
theorem out_no {x : ByteArray} {k : Int} (h : k ≠ 0) : outT (x, some k) = nameT k := by unfold outT; dsimp only; rw [if_neg h]
abbrev DR (w : World) (S : Nat → Prop) (db : Nat) (d : Dk) : Prop := DD 33 31 w S db d
set_option maxRecDepth 100000 in
set_option maxHeartbeats 8000000 in
theorem RLine_alone (S : Nat → Prop) (db : Nat) (d : Dk) (s : ByteArray) (w : World) (h : DD 33 31 w S db d) (hS : ∀ g, w.heap.size ≤ g → S g) {x t : ByteArray} (HC : Hid (Calls Tryz.prog 16 #[.string s] w fun e w' => e = .returned (.tuple #[.string x, .string t, .bool false]) ∧ Ext w w')) :
    Calls Tryz.prog 8 #[.pointer (some ⟨db, 0, none⟩), .string s] w (RLn S db (aloneD d s).2 (aloneD d s).1 w) := by
  have HD := Lib.hid h
  unfold RLn
  have step : ∀ b : Bool, (s.toList == [98, 97, 100]) = b → ¬ s = wWant → (s = wStep ∨ s = badT) → Calls Tryz.prog 8 #[.pointer (some ⟨db, 0, none⟩), .string s] w fun e w' => e = .returned (.string (outT (stepD d b).2)) ∧ DOp 33 31 w S db (stepD d b).1 w' := fun b hb hw hs => by
    rw [stepD_ok h.good]
    have hbd := hear_bd d.m (sentR d b)
    have HST : Hid (∀ W, Ext w W → Calls Tryz.prog 18 #[.pointer (some ⟨db, 0, none⟩), .bool b] W (RSt S db d b W)) := Lib.hid fun W e => RStep_any S db d b W (h.ext e) (fun g hg => hS g (Nat.le_trans e.size hg))
    unfold RSt at HST
    obtain ⟨k, hk⟩ : ∃ k, (d.m.hear (sentR d b)).2 = k := ⟨_, rfl⟩
    obtain ⟨m', hm'⟩ : ∃ k, (d.m.hear (sentR d b)).1 = k := ⟨_, rfl⟩
    rw [hk] at hbd
    rw [hk, hm'] at HST ⊢
    unfold cbd at hbd
    obtain ⟨c1, c1'⟩ := tl_no (l := [119, 97, 110, 116]) hw
    have hq : ((s.toList == [115, 116, 101, 112]) = true) ∨ ((s.toList == [115, 116, 101, 112]) = false ∧ b = true) := by
      rcases hs with e | e
      · exact .inl (tl_yes (l := [115, 116, 101, 112]) e).1
      · refine .inr ⟨(tl_no (l := [115, 116, 101, 112]) (by rw [e]; decide)).1, ?_⟩
        rw [← hb]
        exact (tl_yes (l := [98, 97, 100]) e).1
    dsimp only
    clear h hS hs hw hk hm'
    by_cases h0 : k = 0
    · subst h0
      rw [out_ok]
      rcases hq with hq | ⟨hq, rfl⟩
      all_goals
        go_enter Tryz.func8, Tryz.ntmps8
        go_wp2_with fail
        refine HC.out.mono ?_
        rintro _ w1 ⟨rfl, hb1⟩
        go_wp2_with fail
        refine (HST.out _ hb1).mono ?_
        rintro _ w2 ⟨rfl, hop⟩
        have HOP := Lib.hid (hop.from_ hb1)
        clear hop
        go_wp2_with fail
        go_ret
        exact ⟨rfl, HOP.out⟩
    · rw [out_no h0]
      have hkb : (k != 0) = true := by simp [h0]
      have HNM := Lib.hid fun W => RName_any k W (by omega)
      rcases hq with hq | ⟨hq, rfl⟩
      all_goals
        go_enter Tryz.func8, Tryz.ntmps8
        go_wp2_with fail
        refine HC.out.mono ?_
        rintro _ w1 ⟨rfl, hb1⟩
        go_wp2_with fail
        refine (HST.out _ hb1).mono ?_
        rintro _ w2 ⟨rfl, hop⟩
        have HOP := Lib.hid (hop.from_ hb1)
        clear hop
        go_wp2_with fail
        refine (HNM.out _).mono ?_
        rintro _ w3 ⟨rfl, hb3⟩
        go_wp2_with fail
        go_ret
        exact ⟨rfl, HOP.out.ext hb3⟩
  by_cases h1 : s = wWant
  · have hA : aloneD d s = (d, wantT d.m.want, some 0) := if_pos h1
    rw [hA]
    dsimp only
    rw [out_ok]
    obtain ⟨c1, c1'⟩ := tl_yes (l := [119, 97, 110, 116]) h1
    obtain ⟨a1, a2, a3, a4, a5, a6⟩ := want_bd h.good.m
    obtain ⟨ve, mb, va, vw, k1, k2⟩ := h
    have HMW : Hid (∀ W, Ext w W → Calls Tryz.prog 17 #[.pointer (some ⟨mb, 0, none⟩)] W fun e w' => e = .returned d.m.want.val ∧ Ext W w') := Lib.hid fun W e => RMWant_any mb va vw d.m W (k1.ext e).mir
    have K1 := Lib.hid k1
    obtain ⟨wt, hwt⟩ : ∃ x, d.m.want = x := ⟨_, rfl⟩
    rw [hwt] at HMW a1 a2 a3 a4 a5 a6 ⊢
    obtain ⟨t1, t2, t3⟩ := wt
    dsimp only at a1 a2 a3 a4 a5 a6
    obtain ⟨t1, rfl⟩ := Int.eq_ofNat_of_zero_le a1
    obtain ⟨t2, rfl⟩ := Int.eq_ofNat_of_zero_le a3
    obtain ⟨t3, rfl⟩ := Int.eq_ofNat_of_zero_le a5
    simp only [Wt.val] at HMW
    have HI : Hid (∀ t : Nat, t ≤ 1000000 → ∀ W, Calls Tryz.prog 9 #[.int .i64 t] W fun e w' => e = .returned (.string (digB t)) ∧ Ext W w') := Lib.hid fun t ht W => RDigits_any t t W (Nat.le_refl _) (by omega)
    have HI1 := Lib.hid (HI.out t1 (by omega))
    have HI2 := Lib.hid (HI.out t2 (by omega))
    have HI3 := Lib.hid (HI.out t3 (by omega))
    have s1 := digB_small 2 t1 (by show _ < 1000; omega)
    have s2 := digB_small 2 t2 (by show _ < 1000; omega)
    have s3 := digB_small 2 t3 (by show _ < 1000; omega)
    have HWT : Hid (wantT ⟨(t1 : Int), (t2 : Int), (t3 : Int)⟩ = digB t1 ++ ⟨#[32]⟩ ++ digB t2 ++ ⟨#[32]⟩ ++ digB t3) := rfl
    obtain ⟨x1, hx1⟩ : ∃ x, digB t1 = x := ⟨_, rfl⟩
    obtain ⟨x2, hx2⟩ : ∃ x, digB t2 = x := ⟨_, rfl⟩
    obtain ⟨x3, hx3⟩ : ∃ x, digB t3 = x := ⟨_, rfl⟩
    rw [hx1] at HI1 s1 HWT
    rw [hx2] at HI2 s2 HWT
    rw [hx3] at HI3 s3 HWT
    rw [HWT.out]
    clear hA h1 k1 k2 hwt a1 a2 a3 a4 a5 a6 HI HWT hx1 hx2 hx3 hS step
    go_enter Tryz.func8, Tryz.ntmps8
    go_wp2_with fail
    refine HC.out.mono ?_
    rintro _ w0 ⟨rfl, hb0⟩
    have y1 : w0.cell? ⟨db, 1, none⟩ = some (.pointer (some ⟨mb, 0, none⟩)) := (K1.out.ext hb0).bk.cell 1
    go_wp2_with fail
    refine (HMW.out _ hb0).mono ?_
    rintro _ w1 ⟨rfl, hb1⟩
    have B2 := Bk.at_ w1 60 #[.int .i64 t1, .int .i64 t2, .int .i64 t3] w1.heap.size rfl
    have e2 : Ext w (w1.alloc (.cells #[.int .i64 t1, .int .i64 t2, .int .i64 t3] 60)) := (hb0.trans hb1).alloc _
    go_upto_region 6 with (fail)
    generalize w1.alloc (.cells #[.int .i64 t1, .int .i64 t2, .int .i64 t3] 60) = W2 at *
    generalize w1.heap.size = g2 at *
    have HE2 := Lib.hid e2
    have HB2 := Lib.hid B2
    have z0 := HB2.out.cell 0
    clear y1 hb1 hb0 B2 e2 HMW
    go_wp2_with fail
    refine (HI1.out _).mono ?_
    rintro _ w3 ⟨rfl, hb3⟩
    have z1 : w3.cell? ⟨g2, 1, none⟩ = some (.int .i64 t2) := (HB2.out.ext hb3).cell 1
    go_wp2_with fail
    refine (HI2.out _).mono ?_
    rintro _ w4 ⟨rfl, hb4⟩
    have hb34 := hb3.trans hb4
    have z2 : w4.cell? ⟨g2, 2, none⟩ = some (.int .i64 t3) := (HB2.out.ext hb34).cell 2
    go_wp2_with fail
    refine (HI3.out _).mono ?_
    rintro _ w5 ⟨rfl, hb5⟩
    go_wp2_with fail
    go_ret
    exact ⟨rfl, DOp.stay HD.out (HE2.out.trans (hb34.trans hb5))⟩
  by_cases h2 : s = wStep
  · have hA : aloneD d s = stepD d false := by unfold aloneD; rw [if_neg h1, if_pos h2]
    rw [hA]
    exact step false (tl_no (l := [98, 97, 100]) (by rw [h2]; decide)).1 h1 (.inl h2)
  by_cases h3 : s = badT
  · have hA : aloneD d s = stepD d true := by unfold aloneD; rw [if_neg h1, if_neg h2, if_pos h3]
    rw [hA]
    exact step true (tl_yes (l := [98, 97, 100]) h3).1 h1 (.inr h3)
  obtain ⟨c1, c1'⟩ := tl_no (l := [119, 97, 110, 116]) h1
  obtain ⟨c2, c2'⟩ := tl_no (l := [115, 116, 101, 112]) h2
  obtain ⟨c3, c3'⟩ := tl_no (l := [98, 97, 100]) h3
  clear step
  by_cases h4 : s = wState
  · have hA : aloneD d s = (d, stateT d.m, some 0) := by unfold aloneD; rw [if_neg h1, if_neg h2, if_neg h3, if_pos h4]
    rw [hA]
    dsimp only
    rw [out_ok]
    obtain ⟨c4, c4'⟩ := tl_yes (l := [115, 116, 97, 116, 101]) h4
    have hgm := h.good.m
    have hol := hgm.own_le
    have hvl : vld (rootE d.m.own) = true := by rw [rootE_ok hgm.own]; exact vld_ofL (leafs_of_ents hgm.own).2 (by have := (leafs_of_ents hgm.own).1; omega)
    obtain ⟨hv1, hv2⟩ := vld_true hvl
    obtain ⟨ve, mb, va, vw, k1, k2⟩ := h
    obtain ⟨A1, cc1, hva1, -, -, -⟩ := own_rd k1.mir.own
    have K1 := Lib.hid k1
    have HRT : Hid (∀ W, Ext w W → Calls Tryz.prog 21 #[.pointer (some ⟨mb, 0, none⟩)] W fun e w' => e = .returned (.int .i64 (rootE d.m.own)) ∧ Ext W w') := Lib.hid fun W e => RMRoot_any mb va vw d.m W (k1.ext e).mir
    obtain ⟨ro, hro⟩ : ∃ x : Nat, rootE d.m.own = (x : Int) := ⟨(rootE d.m.own).toNat, by omega⟩
    have HTX : Hid (∀ W, Calls Tryz.prog 20 #[.int .i64 (ro : Int)] W fun e w' => e = .returned (.string (hexT ro)) ∧ Ext W w') := Lib.hid fun W => RText_any ro W (by omega)
    have s2 := hexT_size ro
    have HI : Hid (∀ W, Calls Tryz.prog 9 #[.int .i64 (d.m.own.length : Nat)] W fun e w' => e = .returned (.string (digB d.m.own.length)) ∧ Ext W w') := Lib.hid fun W => RDigits_any d.m.own.length d.m.own.length W (Nat.le_refl _) (by omega)
    have s1 := digB_small 2 d.m.own.length (by show _ < 1000; omega)
    have HST : Hid (stateT d.m = digB d.m.own.length ++ ⟨#[32]⟩ ++ hexT ro) := by
      show digB d.m.own.length ++ spT ++ hexT (rootE d.m.own).toNat = _
      rw [hro, Int.toNat_natCast]
      rfl
    rw [hro] at HRT
    obtain ⟨x2, hx2⟩ : ∃ x, hexT ro = x := ⟨_, rfl⟩
    rw [hx2] at HTX s2 HST
    obtain ⟨x1, hx1⟩ : ∃ x, digB d.m.own.length = x := ⟨_, rfl⟩
    rw [hx1] at HI s1 HST
    obtain ⟨k, hk⟩ : ∃ x, d.m.own.length = x := ⟨_, rfl⟩
    rw [hk] at HI hva1
    have HVA := Lib.hid hva1
    rw [HST.out]
    clear hA h1 h2 h3 h4 k1 k2 HST hx1 hx2 hro hk hgm hvl hol hS hva1 hv1 hv2
    go_enter Tryz.func8, Tryz.ntmps8
    go_wp2_with fail
    refine HC.out.mono ?_
    rintro _ w0 ⟨rfl, hb0⟩
    have y1 : w0.cell? ⟨db, 1, none⟩ = some (.pointer (some ⟨mb, 0, none⟩)) := (K1.out.ext hb0).bk.cell 1
    have y2 : w0.cell? ⟨mb, 1, none⟩ = some (.slice A1 k cc1) := by rw [← HVA.out]; exact (K1.out.ext hb0).mir.bk.cell 1
    go_wp2_with fail
    refine (HI.out _).mono ?_
    rintro _ w1 ⟨rfl, hb1⟩
    have e1 := hb0.trans hb1
    have y3 : w1.cell? ⟨db, 1, none⟩ = some (.pointer (some ⟨mb, 0, none⟩)) := (K1.out.ext e1).bk.cell 1
    go_wp2_with fail
    refine (HRT.out _ e1).mono ?_
    rintro _ w2 ⟨rfl, hb2⟩
    go_wp2_with fail
    refine (HTX.out _).mono ?_
    rintro _ w3 ⟨rfl, hb3⟩
    go_wp2_with fail
    go_ret
    exact ⟨rfl, DOp.stay HD.out (e1.trans (hb2.trans hb3))⟩
  · have hA : aloneD d s = (d, noT, none) := by unfold aloneD; rw [if_neg h1, if_neg h2, if_neg h3, if_neg h4]
    rw [hA]
    dsimp only
    rw [out_none]
    obtain ⟨c4, c4'⟩ := tl_no (l := [115, 116, 97, 116, 101]) h4
    clear hA h1 h2 h3 h4 h hS
    go_enter Tryz.func8, Tryz.ntmps8
    go_wp2_with fail
    refine HC.out.mono ?_
    rintro _ w0 ⟨rfl, hb0⟩
    go_wp2_with fail
    go_ret
    exact ⟨rfl, DOp.stay HD.out hb0⟩
end Go.Proofs.YtnphbkjkeipmmaaGreatDoor
