/- the references' desk: a line of more words. -/
import Derived.Test.YtnphbkjkeipmmaaGreatDoorJRunAnswers12
import Derived.Test.YtnphbkjkeipmmaaGreatDoorJRunBegins28
namespace Go.Proofs.YtnphbkjkeipmmaaGreatDoor
open Go.RowKit Go.WideShapes
set_option linter.unusedVariables false
attribute [local go_sem ↓] Go.wp_at_zero Go.wp_at_succ

theorem REnt_any (e : Ent) (w : World) : Calls Tryz.prog 23 #[e.val] w fun x w' => x = .returned (.int .i64 (if e.ok then 0 else e.err)) ∧ Ext w w' := REntry_any e.time e.data w
set_option maxRecDepth 100000 in
set_option maxHeartbeats 8000000 in
theorem RLine_add (S : Nat → Prop) (db : Nat) (d : Dk) (s s2 : ByteArray) (w : World) (h : DD 33 31 w S db d) (hS : ∀ g, w.heap.size ≤ g → S g) (hs : s2.size ≤ 1048576) {xw : ByteArray} (hxw : xw = wAdd) (HC : Hid (Calls Tryz.prog 16 #[.string s] w fun e w' => e = .returned (.tuple #[.string xw, .string s2, .bool true]) ∧ Ext w w')) :
    Calls Tryz.prog 8 #[.pointer (some ⟨db, 0, none⟩), .string s] w (RLn S db (addD d s2).2 (addD d s2).1 w) := by
  obtain ⟨ca, ca'⟩ := tl_yes (s := xw) (l := [97, 100, 100]) hxw
  obtain ⟨hz1, hz2⟩ := word_size s2
  have hC := fun W => RWord_any s2 W (by omega)
  have hGA := addD_good h.good s2
  have hA0 : ∀ z, wordV s2 = z → addD d s2 = match numR z.1 4 with
    | none => (d, noT, none)
    | some n => if z.2.2 = false then (d, noT, none)
      else if ¬ (⟨n, z.2.1⟩ : Ent).ok then (d, noT, some (⟨n, z.2.1⟩ : Ent).err)
      else if 200 ≤ d.es.length then (d, noT, some 4)
      else ({ d with es := d.es ++ [⟨n, z.2.1⟩] }, okT, some 0) := fun z hz => by subst hz; rfl
  obtain ⟨z, hz⟩ : ∃ z, wordV s2 = z := ⟨_, rfl⟩
  have hA := hA0 z hz
  rw [hz] at hz1 hz2 hC
  obtain ⟨x, t, b⟩ := z
  dsimp only at hz1 hz2 hC hA
  have HNM := Lib.hid fun W => RNumber_any x 4 W (by decide)
  have HC2 := Lib.hid hC
  have HD := Lib.hid h
  have HS := Lib.hid hS
  obtain ⟨r, hr⟩ : ∃ r, addD d s2 = r := ⟨_, rfl⟩
  unfold RLn
  rw [hr] at hA hGA ⊢
  have HGA := Lib.hid hGA
  clear hA0 hC h hS hz hr hGA hxw
  cases b with
  | false =>
    have hr2 : r = (d, noT, none) := by
      rw [hA]
      split
      · rfl
      · rfl
    have HR := Lib.hid hr2
    clear hA hr2
    go_enter Tryz.func8, Tryz.ntmps8
    go_wp2_with fail
    refine HC.out.mono ?_
    rintro _ w0 ⟨rfl, hb0⟩
    go_wp2_with fail
    refine (HC2.out _).mono ?_
    rintro _ w1 ⟨rfl, hb1⟩
    go_wp2_with fail
    refine (HNM.out _).mono ?_
    rintro _ w2 ⟨rfl, hb2⟩
    have e2 := hb0.trans (hb1.trans hb2)
    go_wp2_with fail
    go_ret
    rw [HR.out]
    exact ⟨rfl, DOp.stay HD.out e2⟩
  | true =>
    cases hnm : numR x 4 with
    | none =>
      rw [hnm] at hA
      have HR := Lib.hid hA
      have HNN : Hid (∀ W, Calls Tryz.prog 22 #[.string x, .int .i64 4] W fun e w' => e = .returned (.tuple #[.int .i64 (numN x 4), .bool false]) ∧ Ext W w') := Lib.hid fun W => by
        have := HNM.out W
        rw [hnm] at this
        exact this
      clear hA HNM hnm
      go_enter Tryz.func8, Tryz.ntmps8
      go_wp2_with fail
      refine HC.out.mono ?_
      rintro _ w0 ⟨rfl, hb0⟩
      go_wp2_with fail
      refine (HC2.out _).mono ?_
      rintro _ w1 ⟨rfl, hb1⟩
      go_wp2_with fail
      refine (HNN.out _).mono ?_
      rintro _ w2 ⟨rfl, hb2⟩
      have e2 := hb0.trans (hb1.trans hb2)
      go_wp2_with fail
      go_ret
      rw [HR.out]
      exact ⟨rfl, DOp.stay HD.out e2⟩
    | some n =>
      rw [hnm] at hA
      simp only at hA
      rw [if_neg (by decide)] at hA
      have HNN : Hid (∀ W, Calls Tryz.prog 22 #[.string x, .int .i64 4] W fun e w' => e = .returned (.tuple #[.int .i64 (n : Int), .bool true]) ∧ Ext W w') := Lib.hid fun W => by
        have := HNM.out W
        rw [numN_some hnm, hnm] at this
        exact this
      have hCK := fun W => REnt_any (⟨(n : Int), t⟩ : Ent) W
      simp only [Ent.val] at hCK
      clear HNM hnm
      by_cases hk : (⟨(n : Int), t⟩ : Ent).ok
      case neg =>
        rw [if_pos hk] at hA
        rw [if_neg hk] at hCK
        have hne := Ent.err_ne (⟨(n : Int), t⟩ : Ent)
        have hbd := entErr_bd (⟨(n : Int), t⟩ : Ent)
        obtain ⟨fe, hfe⟩ : ∃ v, (⟨(n : Int), t⟩ : Ent).err = v := ⟨_, rfl⟩
        rw [hfe] at hA hCK hne hbd
        unfold cbd at hbd
        have hf1 : (fe == 0) = false := beq_eq_false_iff_ne.2 hne
        have hf2 : (fe != 0) = true := by simp [hne]
        have HNA := Lib.hid fun W => RName_any fe W (by omega)
        have HO := Lib.hid (out_no (x := noT) hne)
        have HR := Lib.hid hA
        have HCK := Lib.hid hCK
        clear hk hA hCK hfe
        go_enter Tryz.func8, Tryz.ntmps8
        go_wp2_with fail
        refine HC.out.mono ?_
        rintro _ w0 ⟨rfl, hb0⟩
        go_wp2_with fail
        refine (HC2.out _).mono ?_
        rintro _ w1 ⟨rfl, hb1⟩
        go_wp2_with fail
        refine (HNN.out _).mono ?_
        rintro _ w2 ⟨rfl, hb2⟩
        have e2 := hb0.trans (hb1.trans hb2)
        go_wp2_with fail
        refine (HCK.out _).mono ?_
        rintro _ w3 ⟨rfl, hb3⟩
        have e3 : Ext w w3 := Ext.trans (by (repeat (with_reducible first | exact Ext.refl _ | assumption | refine Ext.drew ?_ | refine Ext.drewN ?_ _ | refine Ext.alloc ?_ _ | refine Ext.trans ?_ (by with_reducible assumption)))) hb3
        go_wp2_with fail
        refine (HNA.out _).mono ?_
        rintro _ w4 ⟨rfl, hb4⟩
        go_wp2_with fail
        go_ret
        rw [HR.out]
        dsimp only
        rw [HO.out]
        exact ⟨rfl, DOp.stay HD.out (e3.trans hb4)⟩
      rw [if_neg (not_not_intro hk)] at hA
      rw [if_pos hk] at hCK
      have HCK := Lib.hid hCK
      clear hk hCK
      obtain ⟨ve, mb, va, vw, h1, h2⟩ := HD.out
      obtain ⟨A, c, hva, hc1, hrd, -⟩ := own_rd h1.own
      have hl := h1.good.es.1
      obtain ⟨k, hk⟩ : ∃ k, d.es.length = k := ⟨_, rfl⟩
      rw [hk] at hA hl hva
      have HVA := Lib.hid hva
      have H1 := Lib.hid h1
      have H2 := Lib.hid h2
      have HKL := Lib.hid hk
      clear hva h1 h2 hk hrd
      by_cases hf : 200 ≤ k
      · have hr2 := hA
        rw [if_pos hf] at hr2
        have HR := Lib.hid hr2
        have HNA := Lib.hid fun W => RName_any 4 W (by omega)
        have HO := Lib.hid (out_no (x := noT) (k := 4) (by decide))
        have hfi : (200 : Int) ≤ (k : Int) := by omega
        clear hA hr2
        go_enter Tryz.func8, Tryz.ntmps8
        go_wp2_with fail
        refine HC.out.mono ?_
        rintro _ w0 ⟨rfl, hb0⟩
        go_wp2_with fail
        refine (HC2.out _).mono ?_
        rintro _ w1 ⟨rfl, hb1⟩
        go_wp2_with fail
        refine (HNN.out _).mono ?_
        rintro _ w2 ⟨rfl, hb2⟩
        have e2 := hb0.trans (hb1.trans hb2)
        go_wp2_with fail
        refine (HCK.out _).mono ?_
        rintro _ w3 ⟨rfl, hb3⟩
        have e3 : Ext w w3 := Ext.trans (by (repeat (with_reducible first | exact Ext.refl _ | assumption | refine Ext.drew ?_ | refine Ext.drewN ?_ _ | refine Ext.alloc ?_ _ | refine Ext.trans ?_ (by with_reducible assumption)))) hb3
        have y0 : w3.cell? ⟨db, 0, none⟩ = some (.slice A k c) := by rw [← HVA.out]; exact (H1.out.ext e3).bk.cell 0
        go_wp2_with fail
        refine (HNA.out _).mono ?_
        rintro _ w4 ⟨rfl, hb4⟩
        go_wp2_with fail
        go_ret
        rw [HR.out]
        dsimp only
        rw [HO.out]
        exact ⟨rfl, DOp.stay HD.out (e3.trans hb4)⟩
      · have hr2 := hA
        rw [if_neg hf] at hr2
        have HR := Lib.hid hr2
        have hgd : ({ d with es := d.es ++ [⟨(n : Int), t⟩] } : Dk).Good := by have := HGA.out; rw [hr2] at this; exact this
        have HGD := Lib.hid hgd
        have HO := Lib.hid (out_ok okT)
        have hfi : ¬ (200 : Int) ≤ (k : Int) := by omega
        obtain ⟨i0, hi0, hz0, hzs, hzb⟩ := info_parts info_ent
        clear hA hr2 HGA hgd
        go_enter Tryz.func8, Tryz.ntmps8
        go_wp2_with fail
        refine HC.out.mono ?_
        rintro _ w0 ⟨rfl, hb0⟩
        go_wp2_with fail
        refine (HC2.out _).mono ?_
        rintro _ w1 ⟨rfl, hb1⟩
        go_wp2_with fail
        refine (HNN.out _).mono ?_
        rintro _ w2 ⟨rfl, hb2⟩
        have e2 := hb0.trans (hb1.trans hb2)
        have BE2 := Bk.at_ w2 67 #[.int .i64 (n : Int), .string t] w2.heap.size rfl
        go_wp2_with fail
        refine (HCK.out _).mono ?_
        rintro _ w3 ⟨rfl, hb3⟩
        have e3 : Ext w w3 := Ext.trans (by (repeat (with_reducible first | exact Ext.refl _ | assumption | refine Ext.drew ?_ | refine Ext.drewN ?_ _ | refine Ext.alloc ?_ _ | refine Ext.trans ?_ (by with_reducible assumption)))) hb3
        have BE3 := BE2.ext hb3
        obtain ⟨ge, hge⟩ : ∃ g, w2.heap.size = g := ⟨_, rfl⟩
        rw [hge] at BE3 ⊢
        have HE3 := Lib.hid e3
        have x0 : w3.cell? ⟨ge, 0, none⟩ = some (.int .i64 (n : Int)) := BE3.cell 0
        have x1 : w3.cell? ⟨ge, 1, none⟩ = some (.string t) := BE3.cell 1
        clear hb0 hb1 e2 BE2 hb2 hb3 e3 hge BE3
        have H3 := Lib.hid (H1.out.ext HE3.out)
        have y0 : w3.cell? ⟨db, 0, none⟩ = some (.slice A k c) := by rw [← HVA.out]; exact H3.out.bk.cell 0
        have HWA : Hid (w3.ownsRow 0 67 2 ve k (d.es.flatMap Ent.cells)) := by
          have := H3.out.own
          rw [HKL.out] at this; exact this
        have y0a : (w3.alloc (.cells #[.int .i64 (n : Int), .string t] 67)).cell? ⟨db, 0, none⟩ = some (.slice A k c) := by rw [← HVA.out]; exact (H3.out.bk.alloc _).cell 0
        have y0b : (w3.drew.alloc (.cells #[.int .i64 (n : Int), .string t] 67)).cell? ⟨db, 0, none⟩ = some (.slice A k c) := by rw [← HVA.out]; exact (H3.out.bk.drew.alloc _).cell 0
        go_upto_region 33 with (fail)
        go_cut [] (fun wc => Hid (DOp 33 31 w S db { d with es := d.es ++ [⟨(n : Int), t⟩] } wc))
        case first =>
          as_aux_lemma =>
          go_region_law (refine step_apps (by rfl) _ _ _ (by rfl) 0 67 i0 _ 2 24 Tryz.underlying27 hi0 hz0 hzs hzb rfl (by omega) ve k _ (by exact HVA.out.symm) (own_ext HWA.out (by (repeat (with_reducible first | exact Ext.refl _ | assumption | refine Ext.drew ?_ | refine Ext.drewN ?_ _ | refine Ext.alloc ?_ _ | refine Ext.trans ?_ (by with_reducible assumption))))) ⟨w3.heap.size, 0, none⟩ 1 1 [.int .i64 (n : Int), .string t] (by rfl) rfl (news_new w3 _ _ _ rfl) (by intro u hu; simp at hu; rcases hu with rfl | rfl <;> rfl) (by omega) (by omega) (by omega) (Nat.zero_le _) ?_; intro g cap w5 own5 hg5 hH5 hl5; have B5 := ((H3.out.ext (by (repeat (with_reducible first | exact Ext.refl _ | assumption | refine Ext.drew ?_ | refine Ext.drewN ?_ _ | refine Ext.alloc ?_ _ | refine Ext.trans ?_ (by with_reducible assumption))))).bk).kept hg5 H3.out.db_ne.1; have v0 : w5.cell? ⟨db, 0, none⟩ = some ve := B5.cell 0; have q0 := B5.frozen 0)
          all_goals
            have hset := gb_set w5 db 0 (.slice (some ⟨g, 0, none⟩) (k + 1) cap)
            have B6 : Bk (w5.setCell ⟨db, 0, none⟩ (.slice (some ⟨g, 0, none⟩) (k + 1) cap)) db 33 #[.slice (some ⟨g, 0, none⟩) (k + 1) cap, .pointer (some ⟨mb, 0, none⟩)] := B5.set_ 0 _
            have HOO := H3.out.added H2.out (fun g hg => HS.out g (Nat.le_trans HE3.out.size hg)) (e := ⟨(n : Int), t⟩) (g := g) (cap := cap) (by (repeat (with_reducible first | exact Ext.refl _ | assumption | refine Ext.drew ?_ | refine Ext.drewN ?_ _ | refine Ext.alloc ?_ _ | refine Ext.trans ?_ (by with_reducible assumption)))) (by rw [HKL.out]; exact own5) hg5 hH5 hset (by rw [HKL.out]; exact B6) HGD.out
            have HDO := Lib.hid ((show DOp 33 31 w3 S db _ _ from HOO).from_ HE3.out)
            go_wp2_with fail
            go_meet
            exact HDO
        case rest =>
        as_aux_lemma =>
        go_wp2_with fail
        go_ret
        rw [HR.out]
        dsimp only
        rw [HO.out]
        exact ⟨rfl, hcut.out⟩
set_option maxRecDepth 100000 in
set_option maxHeartbeats 8000000 in
theorem RLine_any (S : Nat → Prop) (db : Nat) (d : Dk) (s : ByteArray) (w : World) (h : DD 33 31 w S db d) (hS : ∀ g, w.heap.size ≤ g → S g) (hs : s.size ≤ 3000) :
    Calls Tryz.prog 8 #[.pointer (some ⟨db, 0, none⟩), .string s] w fun e w' => e = .returned (.string (ansD d s)) ∧ DOp 33 31 w S db (nextD d s) w' := by
  show Calls _ _ _ w (RLn S db (lineD d s).2 (lineD d s).1 w)
  obtain ⟨hz1, hz2⟩ := word_size s
  have hC := RWord_any s w (by omega)
  have hL0 : ∀ z, wordV s = z → lineD d s = if z.2.2 = false then aloneD d s
      else if z.1 = wAdd then addD d z.2.1
      else if z.1 = wAsk then (d, (ansR d.es 7 0 z.2.1).1, some (ansR d.es 7 0 z.2.1).2)
      else if z.1 = wKey then (d, bitsR z.2.1, some (keyK z.2.1))
      else (d, noT, none) := fun z hz => by subst hz; rfl
  obtain ⟨z, hz⟩ : ∃ z, wordV s = z := ⟨_, rfl⟩
  have hL := hL0 z hz
  rw [hz] at hz1 hz2 hC
  obtain ⟨x, t, b⟩ := z
  dsimp only at hz1 hz2 hC hL
  have HC := Lib.hid hC
  have HD := Lib.hid h
  clear hL0 hC hz
  cases b with
  | false =>
    rw [if_pos rfl] at hL
    rw [hL]
    exact RLine_alone S db d s w h hS HC
  | true =>
    rw [if_neg (by decide)] at hL
    by_cases h1 : x = wAdd
    · rw [if_pos h1] at hL
      rw [hL]
      exact RLine_add S db d s t w h hS (by omega) h1 HC
    rw [if_neg h1] at hL
    obtain ⟨c1, c1'⟩ := tl_no (l := [97, 100, 100]) h1
    unfold RLn
    by_cases h2 : x = wAsk
    · rw [if_pos h2] at hL
      rw [hL]
      obtain ⟨c2, c2'⟩ := tl_yes (l := [97, 115, 107]) h2
      have hbd := (ans_bd h.good.es t).1
      obtain ⟨ve, mb, va, vw, k1, k2⟩ := h
      obtain ⟨A, c, hva, hc1, hrd, -⟩ := own_rd k1.own
      obtain ⟨n, hn⟩ : ∃ n, d.es.length = n := ⟨_, rfl⟩
      rw [hn] at hva hrd
      have HSA : Hid (∀ W, Ext w W → Calls Tryz.prog 24 #[.slice A n c, .int .i64 7, .int .i64 0, .string t] W fun e w' => e = .returned (.tuple #[.string (ansR d.es 7 0 t).1, .int .i64 (ansR d.es 7 0 t).2]) ∧ Ext W w') := Lib.hid fun W e => RSAnswer_any A n c d.es 7 0 t W (hrd.ext e) hc1 (by omega)
      obtain ⟨az, haz⟩ : ∃ z, ansR d.es 7 0 t = z := ⟨_, rfl⟩
      rw [haz] at HSA hbd ⊢
      obtain ⟨ax, ak⟩ := az
      dsimp only at HSA hbd ⊢
      unfold cbd at hbd
      have HVA := Lib.hid hva
      have K1 := Lib.hid k1
      clear hL h1 h2 haz hva hc1 hrd hn k1 k2 hS
      by_cases h0 : ak = 0
      · subst h0
        rw [out_ok]
        go_enter Tryz.func8, Tryz.ntmps8
        go_wp2_with fail
        refine HC.out.mono ?_
        rintro _ w1 ⟨rfl, hb1⟩
        have y0 : w1.cell? ⟨db, 0, none⟩ = some (.slice A n c) := by rw [← HVA.out]; exact (K1.out.ext hb1).bk.cell 0
        go_wp2_with fail
        refine (HSA.out _ hb1).mono ?_
        rintro _ w2 ⟨rfl, hb2⟩
        go_wp2_with fail
        go_ret
        exact ⟨rfl, DOp.stay HD.out (hb1.trans hb2)⟩
      · rw [out_no h0]
        have hkb : (ak != 0) = true := by simp [h0]
        have HNM := Lib.hid fun W => RName_any ak W (by omega)
        go_enter Tryz.func8, Tryz.ntmps8
        go_wp2_with fail
        refine HC.out.mono ?_
        rintro _ w1 ⟨rfl, hb1⟩
        have y0 : w1.cell? ⟨db, 0, none⟩ = some (.slice A n c) := by rw [← HVA.out]; exact (K1.out.ext hb1).bk.cell 0
        go_wp2_with fail
        refine (HSA.out _ hb1).mono ?_
        rintro _ w2 ⟨rfl, hb2⟩
        go_wp2_with fail
        refine (HNM.out _).mono ?_
        rintro _ w3 ⟨rfl, hb3⟩
        go_wp2_with fail
        go_ret
        exact ⟨rfl, DOp.stay HD.out (hb1.trans (hb2.trans hb3))⟩
    rw [if_neg h2] at hL
    obtain ⟨c2, c2'⟩ := tl_no (l := [97, 115, 107]) h2
    by_cases h3 : x = wKey
    · rw [if_pos h3] at hL
      rw [hL]
      obtain ⟨c3, c3'⟩ := tl_yes (l := [107, 101, 121]) h3
      have hkk : cbd (keyK t) := by unfold keyK; split <;> (try split) <;> exact cbd_of (by omega)
      have hb2 : keyK t = 0 → bitsR t = bitsS (plcN t) := bitsR_ok
      have HKY := Lib.hid fun W => RSKey_any t W
      have HBT := Lib.hid fun W => RBits_any t W (by unfold maxLen; omega)
      obtain ⟨kk, hkv⟩ : ∃ k, keyK t = k := ⟨_, rfl⟩
      rw [hkv] at HKY hkk hb2 ⊢
      unfold cbd at hkk
      dsimp only
      clear hL h1 h2 h3 h hS hkv
      by_cases h0 : kk = 0
      · subst h0
        rw [out_ok, hb2 rfl]
        go_enter Tryz.func8, Tryz.ntmps8
        go_wp2_with fail
        refine HC.out.mono ?_
        rintro _ w1 ⟨rfl, hb1⟩
        go_wp2_with fail
        refine (HKY.out _).mono ?_
        rintro _ _ ⟨rfl, rfl⟩
        go_wp2_with fail
        refine (HBT.out _).mono ?_
        rintro _ w2 ⟨rfl, hb2⟩
        go_wp2_with fail
        go_ret
        exact ⟨rfl, DOp.stay HD.out (hb1.trans hb2)⟩
      · rw [out_no h0]
        have hkb : (kk != 0) = true := by simp [h0]
        have HNM := Lib.hid fun W => RName_any kk W (by omega)
        go_enter Tryz.func8, Tryz.ntmps8
        go_wp2_with fail
        refine HC.out.mono ?_
        rintro _ w1 ⟨rfl, hb1⟩
        go_wp2_with fail
        refine (HKY.out _).mono ?_
        rintro _ _ ⟨rfl, rfl⟩
        go_wp2_with fail
        refine (HNM.out _).mono ?_
        rintro _ w3 ⟨rfl, hb3⟩
        go_wp2_with fail
        go_ret
        exact ⟨rfl, DOp.stay HD.out (hb1.trans hb3)⟩
    · rw [if_neg h3] at hL
      rw [hL]
      obtain ⟨c3, c3'⟩ := tl_no (l := [107, 101, 121]) h3
      dsimp only
      rw [out_none]
      clear hL h1 h2 h3 h hS
      go_enter Tryz.func8, Tryz.ntmps8
      go_wp2_with fail
      refine HC.out.mono ?_
      rintro _ w1 ⟨rfl, hb1⟩
      go_wp2_with fail
      go_ret
      exact ⟨rfl, DOp.stay HD.out hb1⟩
end Go.Proofs.YtnphbkjkeipmmaaGreatDoor
