/- MirrorPages: the walk. -/
import Derived.Test.YtdpfebokbikgfaaDoorFollow
import Derived.Test.YtdpfebokbikgfaaDoorSrvH
namespace Go.Proofs.YtdpfebokbikgfaaDoor.mirrorPages
open Go.RowKit Go.WideShapes
set_option linter.unusedVariables false
attribute [local go_sem ↓] Go.wp_at_zero Go.wp_at_succ

/-- the head of the first entries -/
theorem sh_some {n : Nat} {t : Int} (hn : n ≤ 200) (ht : 0 ≤ t ∧ t ≤ 1000000) : shK (someL n) 7 t = 0 ∧ verK (shH (someL n) 7 t) 7 = 0 ∧ (shH (someL n) 7 t).size = (n : Int) ∧ (shH (someL n) 7 t).root = ofL ((someL n).map Ent.leaf) ∧ (shH (someL n) 7 t).time = t := by
  have hk := someL_ok n (by omega)
  have h0 := entsErr_ok hk
  obtain ⟨a1, a2, a3, a4⟩ := lg_ok (n := n) (r := ofL ((someL n).map Ent.leaf)) (t := t) (key := 7) (by omega) (vld_root (leafs_of_ents hk)) ht (by decide)
  have hh : shH (someL n) 7 t = sgnH (lgB n (ofL ((someL n).map Ent.leaf)) t) 7 := by unfold shH; rw [if_neg (not_not_intro h0), someL_len]
  have hs := sgn_ver a1
  refine ⟨?_, by rw [hh]; exact a2, ?_, ?_, ?_⟩
  · unfold shK; rw [if_neg (not_not_intro h0), someL_len]; exact a1
  · rw [hh, hs.2.2.2]; rfl
  · rw [hh, hs.2.2.2]; rfl
  · rw [hh, hs.2.2.2]; rfl

set_option maxRecDepth 100000 in
set_option maxHeartbeats 4000000 in
theorem walk_yes (n : Nat) (w : World) (hn : n ≤ 100) (hD : DebG w) (hP : PowG w) :
    Calls Tryd.prog 4 #[.int .i64 n] w fun e w' => e = .returned (.bool true) ∧ Ext w w' := by
  obtain ⟨hE, hN, hG0⟩ := errR_rules
  have hfw := field_want
  obtain ⟨k1, k2, k3, k4, k5⟩ := sh_some (n := n) (t := 0) (by omega) ⟨by decide, by decide⟩
  have HN := Lib.hid (MNew_any 7 w)
  have HS := Lib.hid fun W => some_any n W (by omega)
  have HSH : Hid (∀ A c W, Ext w W → Rd W 2 A n c ((someL n).flatMap Ent.cells) → c ≤ maxLen → Calls Tryd.prog 11 #[.slice A n c, .int .i64 7, .int .i64 0] W fun e w' => e = .returned (.tuple #[(shH (someL n) 7 0).val, .nilIface]) ∧ Ext W w') := Lib.hid fun A c W e hr hc => by
    have := SHead_any A n c (someL n) 7 0 W hr hc (hD.ext e) (hP.ext e)
    rw [k1] at this; exact this
  have hk := someL_ok n (by omega)
  have hlen := someL_len n
  obtain ⟨es, hes⟩ : ∃ x, someL n = x := ⟨_, rfl⟩
  rw [hes] at HS HSH k1 k2 k3 k4 k5 hk hlen
  obtain ⟨h, hh⟩ : ∃ x, shH es 7 0 = x := ⟨_, rfl⟩
  rw [hh] at HSH k2 k3 k4 k5
  have HV := Lib.hid k2
  have HSZ := Lib.hid k3
  have HRT := Lib.hid k4
  have HTM := Lib.hid k5
  have HK := Lib.hid hk
  have HL := Lib.hid hlen
  have HD := Lib.hid hD
  have HPW := Lib.hid hP
  clear hes hh k1 k2 k3 k4 k5 hk hlen hD hP
  go_enter Tryd.func4, Tryd.ntmps4
  go_wp2_with fail
  refine HN.out.mono ?_
  rintro _ w1 hnew
  rcases hnew with ⟨h1, _⟩ | ⟨_, rfl, hmi, hb1⟩
  · exact absurd h1 (by decide)
  have HMI := Lib.hid hmi
  have HE1 := Lib.hid hb1
  rw [errR_0]
  obtain ⟨mb, hmb⟩ : ∃ x, w.heap.size = x := ⟨_, rfl⟩
  rw [hmb] at HMI
  rw [hmb]
  have HMB := Lib.hid hmb
  clear hmi hb1 hmb HN
  go_wp2_with fail
  refine (HS.out _).mono ?_
  rintro _ w2 ⟨⟨v2, rfl, own2⟩, hb2⟩
  obtain ⟨A, c, rfl, hc, hr, -⟩ := own_rd own2
  have HOW := Lib.hid own2
  have HR := Lib.hid hr
  have HE2 := Lib.hid hb2
  have hnc : n ≤ c := hr.2.1
  have hcs : c ≤ 9223372036854775807 := by unfold maxLen at hc; omega
  clear own2 hr hb2 HS
  go_wp2_with fail
  refine (HSH.out A c _ (HE1.out.trans HE2.out) HR.out hc).mono ?_
  rintro _ w3 ⟨rfl, hb3⟩
  obtain ⟨h0, h1, h2, h3⟩ := h
  simp only [Hd.val] at *
  have B3 := Bk.at_ w3 31 #[.int .i64 h0, .int .i64 h1, .int .i64 h2, .int .i64 h3] w3.heap.size rfl
  have e3 : Ext w2 (w3.alloc (.cells #[.int .i64 h0, .int .i64 h1, .int .i64 h2, .int .i64 h3] 31)) := hb3.alloc _
  go_upto_region 6 with (fail)
  generalize w3.alloc (.cells #[.int .i64 h0, .int .i64 h1, .int .i64 h2, .int .i64 h3] 31) = W3 at *
  generalize w3.heap.size = g3 at *
  have y0 := B3.cell 0
  have y1 := B3.cell 1
  have y2 := B3.cell 2
  have y3 := B3.cell 3
  have HE3 := Lib.hid (HE2.out.trans e3)
  have HE03 := Lib.hid (HE1.out.trans (HE2.out.trans e3))
  have HR3 := Lib.hid (HR.out.ext e3)
  have HM3 := Lib.hid (HMI.out.ext HE3.out)
  -- where the mirror lies
  obtain ⟨P, hPdef⟩ : ∃ P : Nat → Prop, P = fun g => g = mb ∨ W3.heap.size ≤ g := ⟨_, rfl⟩
  have HPM : Hid (MM 83 W3 P mb (st 7 es 0 hd00)) := Lib.hid ⟨_, _, HM3.out, fun g hg => by
    rcases hg with rfl | hg | hg
    · rw [hPdef]; exact .inl rfl
    · simp [Value.ownBlock] at hg
    · simp [Value.ownBlock] at hg⟩
  have HPN : Hid (∀ W, Chg W3 W P → ∀ g, W.heap.size ≤ g → P g) := Lib.hid fun W k g hg => by rw [hPdef]; have := k.size; exact .inr (by omega)
  have HPE : Hid (∀ W, Chg W3 W P → Ext w W) := Lib.hid fun W k => k.extW HE03.out fun g hg hp => by
    rw [hPdef] at hp
    rcases hp with rfl | hp
    · have := HMB.out; omega
    · have := HE03.out.size; omega
  have HPA : Hid (∀ W, Chg W3 W P → Rd W 2 A n c (es.flatMap Ent.cells)) := Lib.hid fun W k => HR3.out.chg k fun _ ad e hp => by
    rw [hPdef] at hp
    subst e
    have h1 := HOW.out.lt ad.block rfl
    have h2 := HM3.out.bk
    rcases hp with hp | hp
    · exact own_type HOW.out (HMI.out.bk.ext HE2.out) (by decide) (by rw [← hp]; rfl)
    · have := e3.size; omega
  clear hPdef e3 hb3 B3 HR HE2 HE3 HM3 HMI HE1 HSH
  by_cases hn0 : n = 0
  · have h1 : Hid (∀ W, Chg W3 W P → MM 83 W P mb (st 7 es 0 hd00) → Calls Tryd.prog 19 #[.pointer (some ⟨mb, 0, none⟩), .agg #[.int .i64 1, .int .i64 h0, .int .i64 h1, .int .i64 h2, .int .i64 h3, .slice none 0 0, .slice none 0 0]] W fun e w' => e = .returned .nilIface ∧ MM 83 w' P mb (st 7 es 0 hd00) ∧ Chg W w' P) := Lib.hid fun W k hM => by
      have h1 := Hear_any P mb (st 7 es 0 hd00) ⟨1, ⟨h0, h1, h2, h3⟩, [], []⟩ none 0 0 none 0 0 W hM (HPN.out W k) (HD.out.ext (HPE.out W k)) (HPW.out.ext (HPE.out W k)) (Rd.nil _ _ _ _) (Nat.zero_le _) (Rd.nil _ _ _ _) (Nat.zero_le _)
      subst hn0
      have he : es = [] := List.eq_nil_of_length_eq_zero HL.out
      rw [st_same (Nat.zero_le _) (by rw [he]; exact ⟨Nat.zero_le _, fun e he => by cases he⟩) HV.out HSZ.out (by rw [HRT.out, he]; rfl) HTM.out rfl (Int.le_refl _)] at h1
      exact h1
    subst hn0
    go_wp2_with fail
    refine (h1.out _ ((Ext.refl _).chg P) HPM.out).mono ?_
    rintro _ w4 ⟨rfl, hm4, hg4⟩
    have HM4 := Lib.hid hm4
    have HG4 := Lib.hid hg4
    clear hm4 hg4 y0 y1 y2 y3 h1
    go_wp2_with fail
    refine wp_loop_rounds 1 ?_
    rw [rounds_succ]
    go_wp2_with fail
    refine HM4.out.sizeC.mono ?_
    rintro _ _ ⟨rfl, rfl⟩
    have hz : ((st 7 es 0 hd00).own.length : Int) = 0 := by show ((es.take 0).length : Int) = 0; simp
    rw [hz]
    go_wp2_with fail
    refine HM4.out.want.mono ?_
    rintro _ w5 ⟨rfl, hb5⟩
    rw [show (st 7 es 0 hd00).want = ⟨1, 0, 0⟩ from if_pos rfl]
    simp only [Wt.val]
    go_wp2_with fail
    go_ret
    exact ⟨rfl, (HPE.out _ HG4.out).trans hb5⟩
  · have hn1 : 1 ≤ n := by omega
    obtain ⟨ad, hAd, -, -⟩ := HR3.out.2.2 (by omega)
    subst hAd
    go_wp2_with fail
    refine (fol_head P mb 7 es ⟨h0, h1, h2, h3⟩ n w W3 HE03.out HD.out HPW.out (HPN.out _ ((Ext.refl _).chg P)) HPM.out hn1 HV.out HSZ.out).mono ?_
    rintro _ w4 ⟨rfl, hm4, hg4⟩
    have HM4 : Hid (MM 83 w4 P mb (fol 7 es ⟨h0, h1, h2, h3⟩ n 0)) := by rw [fol_lt (by omega)]; exact hm4
    have HG4 := Lib.hid hg4
    have HWA : Hid (∀ a, a < n → (pg 7 es 0 hd00 ⟨h0, h1, h2, h3⟩ a).want = ⟨2, (a : Int), ((min n (a + 16) : Nat) : Int)⟩) := Lib.hid fun a ha => pg_want (Nat.zero_le _) ha (by rw [HL.out]; exact Nat.le_refl _) HSZ.out
    clear hm4 hg4 y0 y1 y2 y3
    go_wp2_with fail
    go_loopw [7, 9] (fun x _ wr => ∃ a : Nat, x = .int .i64 a ∧ a ≤ n ∧ Hid (Chg W3 wr P) ∧ Hid (MM 83 wr P mb (fol 7 es ⟨h0, h1, h2, h3⟩ n a))) (fun x _ _ => n - (intOf x).toNat)
    case atStart => exact ⟨0, rfl, Nat.zero_le _, HG4, HM4⟩
    case round =>
      obtain ⟨a, rfl, han, HBW, HMr⟩ := hrel
      by_cases ha : a < n
      · have hm2 := HMr.out
        rw [fol_lt ha] at hm2
        have HM2 := Lib.hid hm2
        have hwt := hm2.want
        rw [HWA.out a ha] at hwt
        obtain ⟨b, hb⟩ : ∃ b, min n (a + 16) = b := ⟨_, rfl⟩
        rw [hb] at hwt
        have HWT := Lib.hid hwt
        have HB := Lib.hid hb.symm
        have haN : (a : Int) < (n : Int) := by omega
        have hb2 : a ≤ b ∧ a < b ∧ b ≤ n := by omega
        have hbc : (a + 16 ≤ n ∧ b = a + 16) ∨ (n < a + 16 ∧ b = n) := by omega
        simp only [Wt.val] at HWT
        clear hm2 hwt hb
        have hab := hb2.1
        have hab2 := hb2.2.1
        have hbn := hb2.2.2
        clear hb2
        go_wp2_with fail
        refine HWT.out.mono ?_
        rintro _ w5 ⟨rfl, hb5⟩
        have B5 := Bk.at_ w5 55 #[.int .i64 2, .int .i64 a, .int .i64 b] w5.heap.size rfl
        have e5 : Ext wr (w5.alloc (.cells #[.int .i64 2, .int .i64 a, .int .i64 b] 55)) := hb5.alloc _
        go_upto_region 11 with (fail)
        generalize w5.alloc (.cells #[.int .i64 2, .int .i64 a, .int .i64 b] 55) = W5 at *
        generalize w5.heap.size = g5 at *
        have z0 := B5.cell 0
        have z1 := B5.cell 1
        have z2 := B5.cell 2
        have HC5 := Lib.hid (HBW.out.trans (e5.chg P) fun _ _ h => h)
        have HM5 := Lib.hid (HM2.out.ext e5)
        clear hb5 e5 B5 HWT
        have HH : Hid (Calls Tryd.prog 19 #[.pointer (some ⟨mb, 0, none⟩), .agg #[.int .i64 2, .int .i64 0, .int .i64 0, .int .i64 0, .int .i64 0, .slice (some (ad.add (a * 2))) (b - a) (c - a), .slice none 0 0]] W5 fun e w' => e = .returned .nilIface ∧ MM 83 w' P mb (fol 7 es ⟨h0, h1, h2, h3⟩ n b) ∧ Chg W5 w' P) :=
          Lib.hid (fol_some P mb 7 es ⟨h0, h1, h2, h3⟩ ad n c a b w W5 (HPE.out _ HC5.out) HD.out HPW.out (HPN.out _ HC5.out) HM5.out ha HB.out (HPA.out _ HC5.out) hc HK.out HSZ.out HRT.out)
        rcases hbc with ⟨q1, q2⟩ | ⟨q1, q2⟩
        · have hbI : (a : Int) + 16 = (b : Int) := by omega
          have q3 : ((n : Int) < (b : Int)) = False := eq_false (by omega)
          have hwr : IntKind.i64.wrap ((a : Int) + 16) = (b : Int) := by rw [hbI]; exact IntWalk.i64_in _ (by omega)
          clear q1 q2 hbI
          go_wp2_with fail
          refine HH.out.mono ?_
          rintro _ w6 ⟨rfl, hm6, hg6⟩
          have HM6 := Lib.hid hm6
          have HG6 := Lib.hid (HC5.out.trans hg6 fun _ _ h => h)
          clear hm6 hg6 z0 z1 z2
          go_wp2_with fail
          go_roundw
          case rel => exact ⟨b, rfl, hbn, HG6, HM6⟩
          case measure => simp [intOf]; omega
        · subst q2
          have q3 : ((b : Int) < (a : Int) + 16) = True := eq_true (by omega)
          have hwr : IntKind.i64.wrap ((a : Int) + 16) = (a : Int) + 16 := IntWalk.i64_in _ (by omega)
          clear q1
          go_wp2_with fail
          refine HH.out.mono ?_
          rintro _ w6 ⟨rfl, hm6, hg6⟩
          have HM6 := Lib.hid hm6
          have HG6 := Lib.hid (HC5.out.trans hg6 fun _ _ h => h)
          clear hm6 hg6 z0 z1 z2
          go_wp2_with fail
          go_roundw
          case rel => exact ⟨b, rfl, hbn, HG6, HM6⟩
          case measure => simp [intOf]; omega
      · obtain rfl : a = n := by omega
        have hm2 := HMr.out
        rw [fol_ge ha] at hm2
        have HM2 := Lib.hid hm2
        have hz : ((st 7 es a ⟨h0, h1, h2, h3⟩).own.length : Int) = (a : Int) := by show ((es.take a).length : Int) = (a : Int); rw [List.length_take, HL.out, Nat.min_self]
        have hsz := hm2.sizeC
        rw [hz] at hsz
        have HST := Lib.hid hsz
        have hwt := hm2.want
        rw [show (st 7 es a ⟨h0, h1, h2, h3⟩).want = ⟨1, 0, 0⟩ from if_pos rfl] at hwt
        have HWT := Lib.hid hwt
        simp only [Wt.val] at HWT
        clear hm2 hz hsz hwt
        go_wp2_with fail
        refine HST.out.mono ?_
        rintro _ _ ⟨rfl, rfl⟩
        go_wp2_with fail
        refine HWT.out.mono ?_
        rintro _ w5 ⟨rfl, hb5⟩
        go_wp2_with fail
        go_ret
        exact ⟨rfl, (HPE.out _ HBW.out).trans hb5⟩

set_option maxRecDepth 100000 in
theorem walk (n : Int) (w : World) (gn : igood n) (hD : DebG w) (hP : PowG w) :
    Calls Tryd.prog 4 #[.int .i64 n] w fun e w' => e = .returned (.bool true) ∧ Ext w w' := by
  by_cases h : 0 ≤ n ∧ n ≤ 100
  · obtain ⟨h1, h2⟩ := h
    obtain ⟨n, rfl⟩ := Int.eq_ofNat_of_zero_le h1
    exact walk_yes n w (by omega) hD hP
  · have HN := Lib.hid (MNew_any 7 w)
    have h' : n < 0 ∨ (0 ≤ n ∧ 100 < n) := by omega
    obtain ⟨hE, hN, hG0⟩ := errR_rules
    clear h
    rcases h' with h | ⟨h, h2⟩
    all_goals
      go_enter Tryd.func4, Tryd.ntmps4
      go_wp2_with fail
      refine HN.out.mono ?_
      rintro _ w1 hnew
      rcases hnew with ⟨h1, _⟩ | ⟨_, rfl, hmi, hb1⟩
      · exact absurd h1 (by decide)
      rw [errR_0]
      clear hmi
      go_wp2_with fail
      go_ret
      exact ⟨rfl, hb1⟩
end Go.Proofs.YtdpfebokbikgfaaDoor.mirrorPages
