/- ForkOlder: the walk. -/
import Derived.Test.YtelcabjhbgkfmaaDoorSrvH
import Derived.Test.YtelcabjhbgkfmaaDoorSome
namespace Go.Proofs.YtelcabjhbgkfmaaDoor.forkOlder
open Go.RowKit Go.WideShapes
set_option linter.unusedVariables false
attribute [local go_sem ↓] Go.wp_at_zero Go.wp_at_succ

theorem someL_take {n m : Nat} (h : n ≤ m) : (someL m).take n = someL n := by
  unfold someL
  rw [← List.map_take, List.take_range, Nat.min_eq_left h]
/-- the head of the first entries -/
theorem sh_some {n : Nat} {t : Int} (hn : n ≤ 60) (ht : 0 ≤ t ∧ t ≤ 1000000) : shK (someL n) 7 t = 0 ∧ shH (someL n) 7 t = sgnH (lgB n (ofL ((someL n).map Ent.leaf)) t) 7 := by
  have hk := someL_ok n (by omega)
  have h0 := entsErr_ok hk
  have h1 := lg_ok (n := n) (r := ofL ((someL n).map Ent.leaf)) (t := t) (key := 7) (by omega) (vld_root (leafs_of_ents hk)) ht (by decide)
  refine ⟨?_, ?_⟩
  · unfold shK; rw [if_neg (not_not_intro h0), someL_len]; exact h1.1
  · unfold shH; rw [if_neg (not_not_intro h0), someL_len]

set_option maxRecDepth 100000 in
set_option maxHeartbeats 4000000 in
theorem walk_yes (n m : Nat) (w : World) (h : n ≤ m) (hm : m ≤ 60) (hD : DebG w) (hP : PowG w) (hg : ErrG w) :
    Calls Tryd.prog 8 #[.int .i64 n, .int .i64 m] w fun e w' => e = .returned (.bool true) ∧ Ext w w' := by
  obtain ⟨hE, hN, hG0⟩ := errR_rules
  obtain ⟨xs, hxs⟩ : ∃ xs, (someL m).map Ent.leaf = xs := ⟨_, rfl⟩
  have hk : leafsOk xs := by rw [← hxs]; exact leafs_of_ents (someL_ok m (by omega))
  have hlen : xs.length = m := by rw [← hxs, List.length_map, someL_len]
  have hxn : (someL n).map Ent.leaf = xs.take n := by rw [← hxs, ← List.map_take, someL_take h]
  have hxm : (someL m).map Ent.leaf = xs.take m := by rw [hxs, List.take_of_length_le (by omega)]
  obtain ⟨k1, k2⟩ := sh_some (n := n) (t := 0) (by omega) ⟨by decide, by decide⟩
  obtain ⟨k3, k4⟩ := sh_some (n := m) (t := 1) (by omega) ⟨by decide, by decide⟩
  rw [hxn] at k2
  rw [hxm] at k4
  obtain ⟨q1, q2, q3⟩ := chk_older hk h (by omega) (t := 0) (u := 1) (key := 7) ⟨by decide, by decide⟩ ⟨by decide, by decide⟩ (by decide)
  rw [← k2, ← k4] at q1 q2 q3
  obtain ⟨p, hp⟩ : ∃ p, goP xs n m = p := ⟨_, rfl⟩
  rw [hp] at q1
  have HSA : Hid (∀ A c W, Ext w W → Rd W 2 A n c ((someL n).flatMap Ent.cells) → c ≤ maxLen → Calls Tryd.prog 39 #[.slice A n c, .int .i64 7, .int .i64 0] W fun e w' => e = .returned (.tuple #[(shH (someL n) 7 0).val, .nilIface]) ∧ Ext W w') := Lib.hid fun A c W e hr hc => by
    have := SHead_any A n c (someL n) 7 0 W hr hc (hD.ext e) (hP.ext e)
    rw [k1] at this; exact this
  have HSB : Hid (∀ A c W, Ext w W → Rd W 2 A m c ((someL m).flatMap Ent.cells) → c ≤ maxLen → Calls Tryd.prog 39 #[.slice A m c, .int .i64 7, .int .i64 1] W fun e w' => e = .returned (.tuple #[(shH (someL m) 7 1).val, .nilIface]) ∧ Ext W w') := Lib.hid fun A c W e hr hc => by
    have := SHead_any A m c (someL m) 7 1 W hr hc (hD.ext e) (hP.ext e)
    rw [k3] at this; exact this
  have HCK : Hid (∀ A q c W, Ext w W → Rd W 1 A q c (p.map (Value.int .i64)) → c ≤ maxLen → Calls Tryd.prog 36 #[(shH (someL n) 7 0).val, (shH (someL m) 7 1).val, .int .i64 7, .slice A q c] W fun e w' => e = .returned (.tuple #[.bool true, .nilIface]) ∧ Ext W w') := Lib.hid fun A q c W e hr hc => by
    have := FCheck_any (shH (someL n) 7 0) (shH (someL m) 7 1) 7 A q c p W (hD.ext e) (hP.ext e) (hg.ext e) hr hc
    rw [q1] at this; exact this
  have HPR : Hid (∀ W, Ext w W → Calls Tryd.prog 34 #[(shH (someL n) 7 0).val, (shH (someL m) 7 1).val, .int .i64 7] W fun e w' => e = .returned (.tuple #[.bool false, .nilIface]) ∧ Ext W w') := Lib.hid fun W e => by
    have := Proves_any (shH (someL n) 7 0) (shH (someL m) 7 1) 7 W (hD.ext e) (hP.ext e)
    rw [q2, q3] at this; exact this
  have HGM : Hid (1 ≤ n → n < m → ∀ A c W, Rd W 1 A m c (xs.map (Value.int .i64)) → c ≤ maxLen → Calls Tryd.prog 40 #[.slice A m c, .int .i64 n, .int .i64 m] W fun e w' => (∃ v, e = .returned (.tuple #[v, .nilIface]) ∧ OwnI W w' v p) ∧ Ext W w') := Lib.hid fun h1 h2 A c W hr hc => by
    have := GMake_any A m c xs n m W hr hc
    obtain ⟨g1, g2⟩ := gmV_goP hk h1 h2 (by omega)
    rw [g1, g2, hp] at this; exact this
  have HNP : Hid (¬ (1 ≤ n ∧ n < m) → p = []) := Lib.hid fun hn => by rw [← hp]; exact if_neg hn
  have HLF := Lib.hid fun A c W hr hc => Leafs_ok A m c (someL m) W hr hc (someL_ok m (by omega))
  rw [someL_len, hxs] at HLF
  have HS1 := Lib.hid fun W => some_any n W (by omega)
  have HS2 := Lib.hid fun W => some_any m W (by omega)
  obtain ⟨ha, hha⟩ : ∃ x, shH (someL n) 7 0 = x := ⟨_, rfl⟩
  obtain ⟨hb, hhb⟩ : ∃ x, shH (someL m) 7 1 = x := ⟨_, rfl⟩
  rw [hha] at HSA HCK HPR
  rw [hhb] at HSB HCK HPR
  clear hha hhb k1 k2 k3 k4 q1 q2 q3 hp hxs hk hlen hxn hxm hD hP hg
  obtain ⟨a0, a1, a2, a3⟩ := ha
  obtain ⟨b0, b1, b2, b3⟩ := hb
  simp only [Hd.val] at *
  by_cases hnm : 1 ≤ n ∧ n < m
  · obtain ⟨hn1, hn2⟩ := hnm
    have HG := Lib.hid (HGM.out hn1 hn2)
    clear HGM HNP
    go_enter Tryd.func8, Tryd.ntmps8
    go_wp2_with fail
    refine (HS2.out _).mono ?_
    rintro _ w1 ⟨⟨v1, rfl, own1⟩, hb1⟩
    obtain ⟨A1, c1, rfl, hc1, R1, _⟩ := own_rd own1
    have HR1 := Lib.hid R1
    clear own1 R1
    go_wp2_with fail
    refine (HLF.out A1 c1 _ HR1.out hc1).mono ?_
    rintro _ w2 ⟨⟨v2, rfl, own2⟩, hb2⟩
    obtain ⟨A2, c2, rfl, hc2, R2, _⟩ := own_rd own2
    have HR2 := Lib.hid R2
    have HE2 := Lib.hid (hb1.trans hb2)
    clear own2 R2 hb1 hb2 HR1 HLF
    go_wp2_with fail
    refine (HS1.out _).mono ?_
    rintro _ w3 ⟨⟨v3, rfl, own3⟩, hb3⟩
    obtain ⟨A3, c3, rfl, hc3, R3, _⟩ := own_rd own3
    have HR3 := Lib.hid R3
    have HE3 := Lib.hid (HE2.out.trans hb3)
    clear own3 R3
    go_wp2_with fail
    refine (HSA.out A3 c3 _ HE3.out HR3.out hc3).mono ?_
    rintro _ w4 ⟨rfl, hb4⟩
    have HA := Lib.hid (Bk.at_ w4 40 #[.int .i64 a0, .int .i64 a1, .int .i64 a2, .int .i64 a3] w4.heap.size rfl)
    have HE5 := Lib.hid ((HE3.out.trans hb4).alloc (.cells #[.int .i64 a0, .int .i64 a1, .int .i64 a2, .int .i64 a3] 40))
    have HR5 := Lib.hid (HR2.out.ext ((hb3.trans hb4).alloc (.cells #[.int .i64 a0, .int .i64 a1, .int .i64 a2, .int .i64 a3] 40)))
    clear hb3 hb4 HR3 HR2 HE3 HE2 HS1
    go_upto_region 7 with (fail)
    generalize w4.alloc (.cells #[.int .i64 a0, .int .i64 a1, .int .i64 a2, .int .i64 a3] 40) = W5 at *
    generalize w4.heap.size = g5 at *
    go_wp2_with fail
    refine (HS2.out _).mono ?_
    rintro _ w6 ⟨⟨v6, rfl, own6⟩, hb6⟩
    obtain ⟨A6, c6, rfl, hc6, R6, _⟩ := own_rd own6
    have HR6 := Lib.hid R6
    have HE6 := Lib.hid (HE5.out.trans hb6)
    clear own6 R6
    go_wp2_with fail
    refine (HSB.out A6 c6 _ HE6.out HR6.out hc6).mono ?_
    rintro _ w7 ⟨rfl, hb7⟩
    have HB := Lib.hid (Bk.at_ w7 40 #[.int .i64 b0, .int .i64 b1, .int .i64 b2, .int .i64 b3] w7.heap.size rfl)
    have e57 : Ext W5 (w7.alloc (.cells #[.int .i64 b0, .int .i64 b1, .int .i64 b2, .int .i64 b3] 40)) := (hb6.trans hb7).alloc _
    have HE8 := Lib.hid (HE5.out.trans e57)
    have HR8 := Lib.hid (HR5.out.ext e57)
    have HA8 := Lib.hid (HA.out.ext e57)
    clear hb6 hb7 HR6 HR5 HE5 HE6 HA e57 HS2
    go_upto_region 8 with (fail)
    generalize w7.alloc (.cells #[.int .i64 b0, .int .i64 b1, .int .i64 b2, .int .i64 b3] 40) = W8 at *
    generalize w7.heap.size = g8 at *
    go_wp2_with fail
    refine (HG.out A2 c2 _ HR8.out hc2).mono ?_
    rintro _ w9 ⟨⟨v9, rfl, own9⟩, hb9⟩
    obtain ⟨A9, c9, rfl, hc9, R9⟩ := own9.rd
    have HR9 := Lib.hid R9
    have HE9 := Lib.hid (HE8.out.trans hb9)
    have A9' := HA8.out.ext hb9
    have B9 := HB.out.ext hb9
    clear own9 R9
    have y0 := A9'.cell 0
    have y1 := A9'.cell 1
    have y2 := A9'.cell 2
    have y3 := A9'.cell 3
    have z0 := B9.cell 0
    have z1 := B9.cell 1
    have z2 := B9.cell 2
    have z3 := B9.cell 3
    go_wp2_with fail
    refine (HCK.out A9 _ c9 _ HE9.out HR9.out hc9).mono ?_
    rintro _ w10 ⟨rfl, hb10⟩
    have HE10 := Lib.hid (HE9.out.trans hb10)
    have A10 := A9'.ext hb10
    have B10 := B9.ext hb10
    clear y0 y1 y2 y3 z0 z1 z2 z3
    have y0 := A10.cell 0
    have y1 := A10.cell 1
    have y2 := A10.cell 2
    have y3 := A10.cell 3
    have z0 := B10.cell 0
    have z1 := B10.cell 1
    have z2 := B10.cell 2
    have z3 := B10.cell 3
    go_wp2_with fail
    refine (HPR.out _ HE10.out).mono ?_
    rintro _ w11 ⟨rfl, hb11⟩
    have e11 := HE10.out.trans hb11
    go_wp2_with fail
    go_ret
    exact ⟨rfl, e11⟩
  · obtain rfl := HNP.out hnm
    have hq : (n = 0 ∧ ¬ (1 : Int) ≤ (n : Int)) ∨ ((1 : Int) ≤ (n : Int) ∧ ¬ (n : Int) < (m : Int)) := by omega
    clear HGM HNP hnm
    rcases hq with ⟨rfl, hq⟩ | ⟨hq, hq2⟩
    all_goals
      go_enter Tryd.func8, Tryd.ntmps8
      go_wp2_with fail
      refine (HS2.out _).mono ?_
      rintro _ w1 ⟨⟨v1, rfl, own1⟩, hb1⟩
      obtain ⟨A1, c1, rfl, hc1, R1, _⟩ := own_rd own1
      have HR1 := Lib.hid R1
      clear own1 R1
      go_wp2_with fail
      refine (HLF.out A1 c1 _ HR1.out hc1).mono ?_
      rintro _ w2 ⟨⟨v2, rfl, own2⟩, hb2⟩
      obtain ⟨A2, c2, rfl, hc2, R2, _⟩ := own_rd own2
      have HE2 := Lib.hid (hb1.trans hb2)
      clear own2 R2 hb1 hb2 HR1 HLF
      go_wp2_with fail
      refine (HS1.out _).mono ?_
      rintro _ w3 ⟨⟨v3, rfl, own3⟩, hb3⟩
      obtain ⟨A3, c3, rfl, hc3, R3, _⟩ := own_rd own3
      have HR3 := Lib.hid R3
      have HE3 := Lib.hid (HE2.out.trans hb3)
      clear own3 R3
      go_wp2_with fail
      refine (HSA.out A3 c3 _ HE3.out HR3.out hc3).mono ?_
      rintro _ w4 ⟨rfl, hb4⟩
      have HA := Lib.hid (Bk.at_ w4 40 #[.int .i64 a0, .int .i64 a1, .int .i64 a2, .int .i64 a3] w4.heap.size rfl)
      have HE5 := Lib.hid ((HE3.out.trans hb4).alloc (.cells #[.int .i64 a0, .int .i64 a1, .int .i64 a2, .int .i64 a3] 40))
      clear hb3 hb4 HR3 HE3 HE2 HS1
      go_upto_region 7 with (fail)
      generalize w4.alloc (.cells #[.int .i64 a0, .int .i64 a1, .int .i64 a2, .int .i64 a3] 40) = W5 at *
      generalize w4.heap.size = g5 at *
      go_wp2_with fail
      refine (HS2.out _).mono ?_
      rintro _ w6 ⟨⟨v6, rfl, own6⟩, hb6⟩
      obtain ⟨A6, c6, rfl, hc6, R6, _⟩ := own_rd own6
      have HR6 := Lib.hid R6
      have HE6 := Lib.hid (HE5.out.trans hb6)
      clear own6 R6
      go_wp2_with fail
      refine (HSB.out A6 c6 _ HE6.out HR6.out hc6).mono ?_
      rintro _ w7 ⟨rfl, hb7⟩
      have HB := Lib.hid (Bk.at_ w7 40 #[.int .i64 b0, .int .i64 b1, .int .i64 b2, .int .i64 b3] w7.heap.size rfl)
      have e57 : Ext W5 (w7.alloc (.cells #[.int .i64 b0, .int .i64 b1, .int .i64 b2, .int .i64 b3] 40)) := (hb6.trans hb7).alloc _
      have HE8 := Lib.hid (HE5.out.trans e57)
      have HA8 := Lib.hid (HA.out.ext e57)
      clear hb6 hb7 HR6 HE5 HE6 HA e57 HS2
      go_upto_region 8 with (fail)
      generalize w7.alloc (.cells #[.int .i64 b0, .int .i64 b1, .int .i64 b2, .int .i64 b3] 40) = W8 at *
      generalize w7.heap.size = g8 at *
      have y0 := HA8.out.cell 0
      have y1 := HA8.out.cell 1
      have y2 := HA8.out.cell 2
      have y3 := HA8.out.cell 3
      have z0 := HB.out.cell 0
      have z1 := HB.out.cell 1
      have z2 := HB.out.cell 2
      have z3 := HB.out.cell 3
      go_wp2_with fail
      refine (HCK.out none 0 0 _ HE8.out (Rd.nil _ _ _ _) (Nat.zero_le _)).mono ?_
      rintro _ w10 ⟨rfl, hb10⟩
      have HE10 := Lib.hid (HE8.out.trans hb10)
      have A10 := HA8.out.ext hb10
      have B10 := HB.out.ext hb10
      clear y0 y1 y2 y3 z0 z1 z2 z3
      have y0 := A10.cell 0
      have y1 := A10.cell 1
      have y2 := A10.cell 2
      have y3 := A10.cell 3
      have z0 := B10.cell 0
      have z1 := B10.cell 1
      have z2 := B10.cell 2
      have z3 := B10.cell 3
      go_wp2_with fail
      refine (HPR.out _ HE10.out).mono ?_
      rintro _ w11 ⟨rfl, hb11⟩
      have e11 := HE10.out.trans hb11
      go_wp2_with fail
      go_ret
      exact ⟨rfl, e11⟩

set_option maxRecDepth 100000 in
theorem walk (n m : Int) (w : World) (gn : igood n) (gm : igood m) (hD : DebG w) (hP : PowG w) (hg : ErrG w) :
    Calls Tryd.prog 8 #[.int .i64 n, .int .i64 m] w fun e w' => e = .returned (.bool true) ∧ Ext w w' := by
  by_cases h : 0 ≤ n ∧ n ≤ m ∧ m ≤ 60
  · obtain ⟨h1, h2, h3⟩ := h
    obtain ⟨n, rfl⟩ := Int.eq_ofNat_of_zero_le h1
    obtain ⟨m, rfl⟩ := Int.eq_ofNat_of_zero_le (show 0 ≤ m by omega)
    exact walk_yes n m w (by omega) (by omega) hD hP hg
  · have h' : n < 0 ∨ (0 ≤ n ∧ m < n) ∨ (0 ≤ n ∧ n ≤ m ∧ 60 < m) := by omega
    clear h
    rcases h' with h | ⟨h, h2⟩ | ⟨h, h2, h3⟩
    all_goals
      go_enter Tryd.func8, Tryd.ntmps8
      go_wp2_with fail
      go_ret
      exact ⟨rfl, by (repeat (with_reducible first | exact Ext.refl _ | assumption | refine Ext.drew ?_ | refine Ext.drewN ?_ _ | refine Ext.alloc ?_ _ | refine Ext.trans ?_ (by with_reducible assumption)))⟩
end Go.Proofs.YtelcabjhbgkfmaaDoor.forkOlder
